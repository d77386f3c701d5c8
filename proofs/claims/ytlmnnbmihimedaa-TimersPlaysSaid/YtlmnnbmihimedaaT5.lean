/- The walk of the law TimersParted. Conditions: as each theorem states them. -/
import Derived.Test.YtlmnnbmihimedaaT4
namespace Go.Proofs.Ytlmnnbmihimedaa
open Go.RowKit Go.Maps
set_option linter.unusedVariables false
set_option linter.unusedSimpArgs false

theorem QL.bound {w : World} {B q m : Nat} {T : List Tm} {F : Nat → Prop} (h : QL w B q m T F) : QL w B q m T (fun b => F b ∧ b < w.heap.size) := by
  obtain ⟨v, bs, tm, pl, h1, h2, h3, h4, h5⟩ := h
  exact ⟨v, bs, tm, pl, h1, h2, h3, h4, fun b hb => ⟨h5 b hb, h1.lt hb⟩⟩
set_option maxRecDepth 100000 in
set_option maxHeartbeats 4000000 in
theorem parted_small (A : Option Addr) (n c : Nat) (l : List Tm) (one two : Int) (W : World) (hl : l.length = n) (hA : RdT W W.heap.size A l) (hn : n ≤ 200) (h12 : one ≤ two) :
    Calls Try.prog 5 #[.slice A n c, .int .i64 one, .int .i64 two] W fun e w' => e = .returned (.bool true) ∧ Below W.heap.size W w' := by
  have hni : ¬ (200 : Int) < (n : Int) := by omega
  have h12' : ¬ two < one := by omega
  have HA := Lib.hid hA
  have HLN := Lib.hid hl
  have HPM := Lib.hid (putAll_perm (l := l) (l' := l.reverse) (fun y => by simp) (by omega) (by simp; omega))
  clear hA hl
  go_enter Try.func5, Try.ntmps5
  go_wp2_with (fail)
  refine (filled_any A n c l W HLN.out (by omega) HA.out).mono ?_
  rintro e w1 ⟨rfl, hq1, hb1⟩
  have HP1 := Lib.hid hq1
  have HB1 := Lib.hid hb1
  have hs1 := hb1.size
  have hlt1 := hq1.lt
  clear hq1 hb1
  go_wp2_with (fail)
  refine (filled_back A n c l w1 HLN.out (by omega) ((HA.out.below HB1.out).more hs1 (Nat.le_refl _))).mono ?_
  rintro e w2 ⟨rfl, hq2, hb2⟩
  have HQ2 := Lib.hid hq2
  have HB2 := Lib.hid hb2
  have hs2 := hb2.size
  have HP2 : Hid (QL w2 W.heap.size (W.heap.size + 1) W.heap.size (putAll [] l) (fun b => W.heap.size ≤ b ∧ b < w1.heap.size)) := Lib.hid (HP1.out.bound.below HB2.out)
  clear hq2 hb2
  go_wp2_with (fail)
  refine (dueL _ _ _ _ _ one w2 HP2.out (by omega)).mono ?_
  rintro e w3 ⟨va, la, ra, rfl, howna, hpa, hoa, hra, hsa, hp3, hk3⟩
  have hs3 := hk3.size
  have HK3 := Lib.hid hk3
  have HP3 := Lib.hid hp3
  have HOWA := Lib.hid howna
  have HA3 := Lib.hid (show (la ++ ra).Perm (putAll [] l) ∧ (∀ x ∈ la, x.t ≤ one) ∧ (∀ x ∈ ra, one < x.t) ∧ la.Pairwise ltT from ⟨hpa, hoa, hra, hsa⟩)
  clear howna hpa hoa hra hsa hp3 hk3
  go_wp2_with (fail)
  refine (dueL _ _ _ _ _ two w3 HP3.out (by omega)).mono ?_
  rintro e w4 ⟨vb, lb, rb, rfl, hownb, hpb, hob, hrb, hsb, hp4, hk4⟩
  have hs4 := hk4.size
  have HK4 := Lib.hid hk4
  have HP4 := Lib.hid hp4
  have HOWB := Lib.hid hownb
  have HB3 := Lib.hid (show (lb ++ rb).Perm ra ∧ (∀ x ∈ lb, x.t ≤ two) ∧ (∀ x ∈ rb, two < x.t) ∧ lb.Pairwise ltT from ⟨hpb, hob, hrb, hsb⟩)
  clear hownb hpb hob hrb hsb hp4 hk4
  have HQ4 : Hid (QL w4 w1.heap.size (w1.heap.size + 1) w1.heap.size (putAll [] l.reverse) (fun b => w1.heap.size ≤ b ∧ b < w2.heap.size)) := Lib.hid ((HQ2.out.bound.kw HK3.out (fun b h1 _ h2 => by have := h2.2; have := h1.1; omega)).kw HK4.out (fun b h1 _ h2 => by have := h2.2; have := h1.1; omega))
  go_wp2_with (fail)
  refine (dueL _ _ _ _ _ two w4 HQ4.out (by omega)).mono ?_
  rintro e w5 ⟨vc, lc, rc, rfl, hownc, hpc, hoc, hrc, hsc, hq5, hk5⟩
  have hs5 := hk5.size
  have HK5 := Lib.hid hk5
  have HQ5 := Lib.hid hq5
  have HP5 : Hid (QL w5 W.heap.size (W.heap.size + 1) W.heap.size rb (fun b => W.heap.size ≤ b ∧ b < w1.heap.size)) := Lib.hid (HP4.out.kw HK5.out (fun b h1 _ h2 => by have := h1.2; have := h2.1; omega))
  have HOWC := Lib.hid hownc
  have HC3 := Lib.hid (show (lc ++ rc).Perm (putAll [] l.reverse) ∧ (∀ x ∈ lc, x.t ≤ two) ∧ (∀ x ∈ rc, two < x.t) ∧ lc.Pairwise ltT from ⟨hpc, hoc, hrc, hsc⟩)
  clear hownc hpc hoc hrc hsc hq5 hk5
  -- the rows stand while the other queue is turned
  have HA5 : Hid (w5.ownsRow w2.heap.size 23 3 va la.length (tcells la)) := Lib.hid (own_kw (own_kw HOWA.out HK4.out (fun g hg h => by have := own_ge HOWA.out g hg; have := h.2; omega)) HK5.out (fun g hg h => by have := own_ge HOWA.out g hg; have := h.2; omega))
  have HB5 : Hid (w5.ownsRow w3.heap.size 23 3 vb lb.length (tcells lb)) := Lib.hid (own_kw HOWB.out HK5.out (fun g hg h => by have := own_ge HOWB.out g hg; have := h.2; omega))
  -- what is due at once is what is due in two steps
  have HEQ : Hid (la ++ lb = lc) := Lib.hid (by
    obtain ⟨pa, oa, ra', sa⟩ := HA3.out
    obtain ⟨pb, ob, rb', sb⟩ := HB3.out
    obtain ⟨pc, oc, rc', sc⟩ := HC3.out
    have hbm : ∀ x ∈ lb, one < x.t := fun x hx => ra' x (pb.mem_iff.1 (List.mem_append_left _ hx))
    have hsab : (la ++ lb).Pairwise ltT := List.pairwise_append.2 ⟨sa, sb, fun x hx y hy => .inl (by have := oa x hx; have := hbm y hy; omega)⟩
    have h1 : ((la ++ lb) ++ rb).Perm (putAll [] l) := by
      rw [List.append_assoc]
      exact (List.Perm.append_left la pb).trans pa
    have f1 := (due_filter h1 (fun x hx => by
      rcases List.mem_append.1 hx with h | h
      · have := oa x h; omega
      · exact ob x h) rb').1
    have f2 := (due_filter (pc.trans HPM.out.symm) oc rc').1
    exact sorted_eq (f1.trans f2.symm) hsab sc)
  have HRR : Hid (rb.Perm rc) := Lib.hid (by
    obtain ⟨pa, oa, ra', sa⟩ := HA3.out
    obtain ⟨pb, ob, rb', sb⟩ := HB3.out
    obtain ⟨pc, oc, rc', sc⟩ := HC3.out
    have h1 : ((la ++ lb) ++ rb).Perm (putAll [] l) := by
      rw [List.append_assoc]
      exact (List.Perm.append_left la pb).trans pa
    have f1 := (due_filter h1 (fun x hx => by
      rcases List.mem_append.1 hx with h | h
      · have := oa x h; omega
      · exact ob x h) rb').2
    have f2 := (due_filter (pc.trans HPM.out.symm) oc rc').2
    exact f1.trans f2.symm)
  have HLE : Hid (la.length + lb.length ≤ 1024 ∧ lc.length ≤ 1024) := Lib.hid (by
    have h1 := HP1.out.length
    have h2 := HA3.out.1.length_eq
    have h3 := HB3.out.1.length_eq
    have h4 := HC3.out.1.length_eq
    have h5 := HPM.out.length_eq
    simp only [List.length_append] at h2 h3 h4
    omega)
  obtain ⟨Aa, ca, hva, hca, hRa, hba⟩ := own_rd HA5.out
  obtain ⟨Ab, cb, hvb, hcb, hRb, hbb⟩ := own_rd HB5.out
  obtain ⟨Ac, cc, hvc, hcc, hRc, hbc⟩ := own_rd HOWC.out
  subst hva hvb hvc
  have hna : Aa = none → ca = 0 ∧ la.length = 0 := fun h => by
    subst h
    rcases HA5.out.2 with ⟨h1, h2⟩ | ⟨g, cap, cur, h1, _⟩
    · simp at h1; exact ⟨h1.2, h1.1 ▸ rfl⟩
    · cases h1
  have hnb : Ab = none → cb = 0 ∧ lb.length = 0 := fun h => by
    subst h
    rcases HB5.out.2 with ⟨h1, h2⟩ | ⟨g, cap, cur, h1, _⟩
    · simp at h1; exact ⟨h1.2, h1.1 ▸ rfl⟩
    · cases h1
  have HNA := Lib.hid hna
  have HNB := Lib.hid hnb
  have HRa := Lib.hid hRa
  have HRb := Lib.hid hRb
  have HRc := Lib.hid hRc
  obtain ⟨na, hla⟩ : ∃ na, la.length = na := ⟨_, rfl⟩
  obtain ⟨nb, hlb⟩ : ∃ nb, lb.length = nb := ⟨_, rfl⟩
  obtain ⟨nc, hlc⟩ : ∃ nc, lc.length = nc := ⟨_, rfl⟩
  rw [hla, hlb, hlc]
  have HLA := Lib.hid hla
  have HLB := Lib.hid hlb
  have HLC := Lib.hid hlc
  clear hna hnb hRa hRb hRc hla hlb hlc hba hbb hbc hca hcb hcc
  go_wp2_with ((at_builtin; refine Hid.out ?_))
  refine Lib.hid ?_
  have hown0 : (w5.alloc (Obj.cells #[] 23)).ownsRow w5.heap.size 23 3 (.slice (some ⟨w5.heap.size, 0, none⟩) 0 0) 0 (tcells []) :=
    ⟨rfl, .inr ⟨w5.heap.size, 0, #[], rfl, Nat.le_refl _, Array.getElem?_push_size, Nat.le_refl _, by simp [maxLen], rfl, rfl⟩⟩
  have hbA : Below w5.heap.size w5 (w5.alloc (Obj.cells #[] 23)) := bl_alloc (Below.refl _ _) _
  refine wpList_append_t _ (by rfl) _ _ rfl w5.heap.size 0 (.slice (some ⟨w5.heap.size, 0, none⟩) 0 0) [] rfl hown0 Aa na ca w5.heap.size la HLA.out rfl (HRa.out.below hbA) (fun h => ⟨(HNA.out h).1, HLA.out ▸ (HNA.out h).2⟩) (by have := HLE.out; rw [HLA.out] at this; omega) (by simp) ?_
  intro v6 w6 hown6 hgrow6
  have hk6 : Below w5.heap.size w5 w6 := ((Kw.ofBelow (S := fun b => w5.heap.size ≤ b) hbA).grown hgrow6 (fun k hk => by simp [Value.ownBlock] at hk; omega)).below (Nat.le_refl _) (fun b h => h)
  have HO6 := Lib.hid hown6
  have HK6 := Lib.hid hk6
  clear hown0 hown6 hgrow6 hk6 hbA
  go_wp2_with ((at_builtin; refine Hid.out ?_))
  refine Lib.hid ?_
  have hn2 : 0 + na + nb ≤ 1000001 := by have := HLE.out; rw [HLA.out, HLB.out] at this; omega
  refine wpList_append_t _ (by rfl) _ _ rfl w5.heap.size (0 + na) v6 ([] ++ la) rfl HO6.out Ab nb cb w5.heap.size lb HLB.out rfl (HRb.out.below HK6.out) (fun h => ⟨(HNB.out h).1, HLB.out ▸ (HNB.out h).2⟩) hn2 HK6.out.size ?_
  intro v7 w7 hown7 hgrow7
  have hk7 : Below w5.heap.size w5 w7 := ((Kw.ofBelow (S := fun b => w5.heap.size ≤ b) HK6.out).grown hgrow7 (own_ge HO6.out)).below (Nat.le_refl _) (fun b h => h)
  have hown7 : w7.ownsRow w5.heap.size 23 3 v7 lc.length (tcells lc) := by
    have e : ([] ++ la ++ lb) = lc := by rw [List.nil_append]; exact HEQ.out
    have e2 : 0 + na + nb = lc.length := by rw [← HEQ.out, List.length_append, HLA.out, HLB.out]; omega
    rw [e, e2] at hown7
    exact hown7
  obtain ⟨A7, c7, hv7, _, hR7, _⟩ := own_rd hown7
  subst hv7
  have HK7 := Lib.hid hk7
  have HR7 := Lib.hid hR7
  have HO7 := Lib.hid hown7
  clear hown7 hgrow7 hk7 hR7 hn2
  rw [HLC.out]
  go_wp2_with (fail)
  refine (same_eq A7 Ac nc c7 cc lc w7 HLC.out (by have := HLE.out.2; rw [HLC.out] at this; omega) HR7.out ((HRc.out.below HK7.out).more HK7.out.size (Nat.le_refl _))).mono ?_
  rintro e w8 ⟨rfl, hb8⟩
  have hk8 := bl_then HK7.out hb8
  have HK8 := Lib.hid hk8
  have hs8 := hk8.size
  clear hb8 hk8
  go_wp2_with (fail)
  refine (listL _ _ _ _ _ w8 (HP5.out.below HK8.out)).mono ?_
  rintro e w9 ⟨vp, Lp, rfl, hownp, hpp, hsp, hb9⟩
  have hk9 := bl_then HK8.out hb9
  have HK9 := Lib.hid hk9
  have HB9 := Lib.hid hb9
  have HOP := Lib.hid hownp
  clear hb9 hk9 hownp
  go_wp2_with (fail)
  refine (listL _ _ _ _ _ w9 (HQ5.out.below HK9.out)).mono ?_
  rintro e w10 ⟨vq, Lq, rfl, hownq, hpq, hsq, hb10⟩
  have hLL : Lp = Lq := sorted_eq (hpp.trans (HRR.out.trans hpq.symm)) hsp hsq
  subst hLL
  have hlen : Lp.length ≤ 1000000 := by
    have h1 := hpp.length_eq
    have h2 := HP5.out.length
    omega
  obtain ⟨Ap, cp, hvp, _, hRp, _⟩ := own_rd HOP.out
  obtain ⟨Aq, cq, hvq, _, hRq, _⟩ := own_rd hownq
  subst hvp hvq
  have hs10 := hb10.size
  have hk10 := bl_then HK9.out hb10
  have HK10 := Lib.hid hk10
  have HRp := Lib.hid ((hRp.below hb10).more hs10 (Nat.le_refl _))
  have HRq := Lib.hid hRq
  obtain ⟨np, hnp⟩ : ∃ np, Lp.length = np := ⟨_, rfl⟩
  rw [hnp] at hlen ⊢
  have HNP := Lib.hid hnp
  clear hownq hpp hpq hsp hsq hRp hRq hb10 hk10 hnp
  go_wp2_with (fail)
  refine (same_eq Ap Aq np cp cq Lp w10 HNP.out hlen HRp.out HRq.out).mono ?_
  rintro e w11 ⟨rfl, hb11⟩
  have hk11 := bl_then HK10.out hb11
  have HK11 := Lib.hid hk11
  clear hb11 hk11
  go_wp2_with (fail)
  refine (awake_any _).mono ?_
  rintro e w12 ⟨rfl, hb12⟩
  go_wp2_with (fail)
  go_ret
  refine ⟨rfl, ?_⟩
  have k1 : Kw (fun b => W.heap.size ≤ b) W w5 := ((((Kw.ofBelow HB1.out).trans (Kw.ofBelow HB2.out)).trans (HK3.out.mono (fun _ _ h => h.1))).trans (HK4.out.mono (fun _ _ h => h.1))).trans (HK5.out.mono (fun b _ h => by have := h.1; omega))
  exact (k1.trans ((Kw.ofBelow HK11.out).trans (Kw.ofBelow hb12))).below (Nat.le_refl _) (fun b h => h)
set_option maxHeartbeats 1000000 in
theorem parted_walk (A : Option Addr) (c : Nat) (l : List Tm) (one two : Int) (W : World) (o : RdT W W.heap.size A l ∧ l.length ≤ c ∧ l.length ≤ maxLen) (hw1 : (Lit.int .i64 one).wf = true) (hw2 : (Lit.int .i64 two).wf = true) :
    Calls Try.prog 5 #[.slice A l.length c, .int .i64 one, .int .i64 two] W fun e w' => e = .returned (.bool true) ∧ Below W.heap.size W w' := by
  by_cases hn : l.length ≤ 200
  · by_cases h12 : one ≤ two
    · exact parted_small A l.length c l one two W rfl o.1 hn h12
    · obtain ⟨n, hl⟩ : ∃ n, l.length = n := ⟨_, rfl⟩
      rw [hl] at hn ⊢
      have hni : ¬ (200 : Int) < (n : Int) := by omega
      have h12' : two < one := by omega
      clear o hl
      go_enter Try.func5, Try.ntmps5
      go_wp2_with (fail)
      refine (awake_any _).mono ?_
      rintro e w1 ⟨rfl, hb1⟩
      go_wp2_with (fail)
      go_ret
      exact ⟨rfl, hb1⟩
  · obtain ⟨n, hl⟩ : ∃ n, l.length = n := ⟨_, rfl⟩
    rw [hl] at hn ⊢
    have hni : (200 : Int) < (n : Int) := by omega
    clear o hl
    go_enter Try.func5, Try.ntmps5
    go_wp2_with (fail)
    refine (awake_any _).mono ?_
    rintro e w1 ⟨rfl, hb1⟩
    go_wp2_with (fail)
    go_ret
    exact ⟨rfl, hb1⟩
end Go.Proofs.Ytlmnnbmihimedaa
