/- Contract of ref.Drop. Conditions: as each theorem states them. -/
import Derived.Test.YtmalcekbhnkfgaaF5
import Derived.Test.YtmalcekbhnkfgaaF2
namespace Go.Proofs.Ytmalcekbhnkfgaa
open Go.RowKit Go.Maps Go.Shelf
set_option linter.unusedVariables false
set_option linter.unusedSimpArgs false

theorem dropL_snoc_t {l : List Pt} {p : Pt} {id : Int} (h : p.id ≠ id) : dropL (l ++ [p]) id = dropL l id ++ [p] := by simp [dropL, h]
theorem dropL_snoc_f {l : List Pt} {p : Pt} {id : Int} (h : p.id = id) : dropL (l ++ [p]) id = dropL l id := by simp [dropL, h]
theorem dropL_len (l : List Pt) (id : Int) : (dropL l id).length ≤ l.length := List.length_filter_le _ _
theorem dropL_full {l : List Pt} {id : Int} (h : (dropL l id).length = l.length) : ∀ p ∈ l, p.id ≠ id := by
  unfold dropL at h
  have h2 := (List.filter_sublist (p := fun p : Pt => decide (p.id ≠ id)) (l := l)).eq_of_length h
  intro p hp
  have := List.filter_eq_self.1 h2 p hp
  simpa using this
def RDropPost (w : World) (l : List Pt) (id : Int) (e : Ending) (w' : World) : Prop :=
  ∃ v, e = .returned (.tuple #[v, .int .i64 (dropE l id)]) ∧ (dropE l id ≠ 0 → v = .slice none 0 0) ∧ (dropE l id = 0 → ∃ A' c', v = .slice A' (dropL l id).length c' ∧ RdP w' w'.heap.size A' (dropL l id)) ∧ Below w.heap.size w w'
set_option maxRecDepth 100000 in
set_option maxHeartbeats 4000000 in
theorem rdrop_len (A : Option Addr) (n c : Nat) (id : Int) (l : List Pt) (w : World) (hl : l.length = n) (hA : RdP w w.heap.size A l) :
    Calls Try.prog 27 #[.slice A n c, .int .u64 id] w (RDropPost w l id) := by
  have HA := Lib.hid hA
  have HL := Lib.hid hl
  have HR := Lib.hid (rright_any A c l w hA)
  rw [hl] at HR
  clear hA hl
  go_enter Try.func27, Try.ntmps27
  go_wp2_with (fail)
  refine HR.out.mono ?_
  rintro e w1 ⟨rfl, hb1⟩
  have HB1 := Lib.hid hb1
  have hs1 := hb1.size
  clear hb1
  by_cases hr : RightP l
  · rw [rightB_t hr]
    have HRP := Lib.hid hr
    have hn16 : n ≤ 16 := by have := hr.1; rw [HL.out] at this; exact this
    clear hr
    go_wp2_with (fail)
    go_loopw [6, 7] (fun vo vi wr => ∃ i : Nat, i ≤ n ∧ vi = .int .i64 i ∧ wr.ownsRow w.heap.size 26 2 vo (dropL (l.take i) id).length (pcells (dropL (l.take i) id)) ∧ Below w.heap.size w wr) (fun _ i _ => n - (intOf i).toNat)
    case atStart => exact ⟨0, Nat.zero_le _, rfl, own_none _ _ _ _, HB1.out⟩
    case round =>
      obtain ⟨i, hin, rfl, hown, hbl⟩ := hrel
      have HOW := Lib.hid hown
      have HBL := Lib.hid hbl
      have hws := hbl.size
      clear hown hbl
      by_cases hi : i < n
      · have hi0 : (0 : Int) ≤ (i : Int) := by omega
        have hi1 : (i : Int) < (n : Int) := by omega
        obtain ⟨b, off, rfl, hbb, _, hc⟩ := HA.out.1 (by rw [HL.out]; omega)
        obtain ⟨a0, a1⟩ := hc i (by rw [HL.out]; exact hi)
        have hsn := take_snocP (l := l) (i := i) (by rw [HL.out]; exact hi)
        obtain ⟨p, hp⟩ : ∃ p, l.getD i zeroP = p := ⟨_, rfl⟩
        rw [hp] at a0 a1 hsn
        have HSN := Lib.hid hsn
        have a0 := (HBL.out.cell (p := ⟨b, off + i * 2, none⟩) hbb).trans a0
        have a1 := (HBL.out.cell (p := ⟨b, off + i * 2 + 1, none⟩) hbb).trans a1
        have hbw : b < wr.heap.size := by omega
        have hdl : Hid ((dropL (l.take i) id).length ≤ i) := Lib.hid (by have := dropL_len (l.take i) id; rw [List.length_take] at this; omega)
        clear hc hp hsn
        obtain ⟨pid, pfs, pA, pc⟩ := p
        dsimp only at a0 a1
        by_cases hid : pid = id
        · have HV : Hid (dropL (l.take (i + 1)) id = dropL (l.take i) id) := Lib.hid (by rw [HSN.out]; exact dropL_snoc_f hid)
          have HO2 : Hid (wr.ownsRow w.heap.size 26 2 u6 (dropL (l.take (i + 1)) id).length (pcells (dropL (l.take (i + 1)) id))) := Lib.hid (by rw [HV.out]; exact HOW.out)
          subst hid
          go_wp2_with (fail)
          go_roundw
          case rel => exact ⟨i + 1, by omega, by first | rfl | (push_cast; rfl) | go_num, HO2.out, HBL.out⟩
          case measure => simp [intOf]; omega
        · have HV : Hid (dropL (l.take (i + 1)) id = dropL (l.take i) id ++ [⟨pid, pfs, pA, pc⟩]) := Lib.hid (by rw [HSN.out]; exact dropL_snoc_t hid)
          have hnb : (pid != id) = true := by simpa using hid
          go_wp2_with ((at_builtin; refine Hid.out ?_))
          refine Lib.hid ?_
          have HB5 : Hid (Below wr.heap.size wr (wr.alloc (Obj.cells #[.int .u64 pid, .slice pA pfs.length pc] 26))) := Lib.hid ((Below.refl wr.heap.size wr).alloc (Nat.le_refl _) _)
          have HO5 := Lib.hid (own_new HOW.out HB5.out)
          have h2 := two_new wr (.int .u64 pid) (.slice pA pfs.length pc) 26
          refine wpList_append_p _ (by rfl) _ _ rfl w.heap.size _ _ (dropL (l.take i) id) rfl HO5.out (some ⟨wr.heap.size, 0, none⟩) 1 1 [⟨pid, pfs, pA, pc⟩] rfl rfl ?_ (fun h => by cases h) (by have := hdl.out; omega) (Nat.le_trans hws HB5.out.size) ?_
          · intro ad had j u hu
            cases had
            match j with
            | 0 =>
              have hu : some (Value.int .u64 pid) = some u := hu
              rw [← hu]
              exact h2.1
            | 1 =>
              have hu : some (Value.slice pA pfs.length pc) = some u := hu
              rw [← hu]
              exact h2.2
            | j + 2 => exact absurd hu (by simp [pcells])
          intro v6 w6 hown6 hg6
          have HO2 : Hid (w6.ownsRow w.heap.size 26 2 v6 (dropL (l.take (i + 1)) id).length (pcells (dropL (l.take (i + 1)) id))) := Lib.hid (by
            rw [HV.out, List.length_append]
            exact hown6)
          have HB6 : Hid (Below w.heap.size w w6) := Lib.hid ((HBL.out.trans (HB5.out.mono hws)).grown hg6 (Nat.le_trans hws HB5.out.size) (own_ge HOW.out))
          clear hown6 hg6 h2 hid
          go_wp2_with (fail)
          go_roundw
          case rel => exact ⟨i + 1, by omega, by first | rfl | (push_cast; rfl) | go_num, HO2.out, HB6.out⟩
          case measure => simp [intOf]; omega
      · have hine : n = i := by omega
        subst hine
        have hirr : ¬ (n : Int) < (n : Int) := by omega
        have ho : wr.ownsRow w.heap.size 26 2 u6 (dropL l id).length (pcells (dropL l id)) := by
          have := HOW.out
          rwa [List.take_of_length_le (by rw [HL.out]; exact Nat.le_refl _)] at this
        have hlen := dropL_len l id
        rw [HL.out] at hlen
        obtain ⟨A6, c6, rfl, hr6, _⟩ := own_rp ho rfl (fun p hp => by
          have hpl : p ∈ l := (List.mem_filter.1 hp).1
          exact ⟨((HA.out.2 p hpl).1.below HBL.out).more hws (Nat.le_refl _), (HA.out.2 p hpl).2⟩)
        have HR6 := Lib.hid hr6
        obtain ⟨k, hk⟩ : ∃ k, (dropL l id).length = k := ⟨_, rfl⟩
        have HK := Lib.hid hk
        rw [hk] at hlen ⊢
        clear ho hr6 hk HOW
        by_cases hkn : k = n
        · have HE : Hid (dropE l id = 4) := Lib.hid (dropE_4 HRP.out (dropL_full (by rw [HK.out, HL.out]; exact hkn)))
          subst hkn
          go_wp2_with (fail)
          go_ret2
          exact ⟨_, by rw [HE.out] <;> rfl, fun _ => rfl, fun h => by rw [HE.out] at h; omega, HBL.out⟩
        · have HE : Hid (dropE l id = 0) := Lib.hid (by
            by_cases h : ∃ p ∈ l, p.id = id
            · obtain ⟨p, hp, e⟩ := h
              exact dropE_0 HRP.out hp e
            · exact absurd (by rw [← HK.out, filter_all (fun p hp e => h ⟨p, hp, e⟩), HL.out]) hkn)
          have hne : ¬ (k : Int) = (n : Int) := by omega
          have hnb : ((k : Int) == (n : Int)) = false := by simpa using hne
          clear hkn
          go_wp2_with (fail)
          go_ret2
          exact ⟨_, by rw [HE.out] <;> rfl, fun h => absurd HE.out h, fun _ => ⟨A6, c6, by rw [HK.out] <;> rfl, HR6.out⟩, HBL.out⟩
  · have HE : Hid (dropE l id = 2) := Lib.hid (dropE_2 hr)
    rw [rightB_f hr]
    clear hr
    go_wp2_with (fail)
    go_ret2
    exact ⟨_, by rw [HE.out] <;> rfl, fun _ => rfl, fun h => by rw [HE.out] at h; omega, HB1.out⟩
theorem rdrop_any (A : Option Addr) (c : Nat) (id : Int) (l : List Pt) (w : World) (hA : RdP w w.heap.size A l) : Calls Try.prog 27 #[.slice A l.length c, .int .u64 id] w (RDropPost w l id) :=
  rdrop_len A l.length c id l w rfl hA
end Go.Proofs.Ytmalcekbhnkfgaa
namespace Go.Proofs.Ytmalcekbhnkfgaa
open Go.RowKit Go.Maps Go.Shelf
set_option linter.unusedVariables false
set_option linter.unusedSimpArgs false

theorem dropE_same1 {L l : List Pt} {id : Int} (h : sameP L l) (he : ∃ p ∈ L, p.id = id) : ∃ p ∈ l, p.id = id := by
  obtain ⟨p, hp, e⟩ := he
  obtain ⟨q, hq, e1, _⟩ := sameP_mem h hp
  exact ⟨q, hq, e1 ▸ e⟩
theorem dropE_same {L l : List Pt} {id : Int} (h : sameP L l) : dropE L id = dropE l id := by
  unfold dropE
  by_cases hr : RightP l
  · rw [if_pos hr, if_pos ((right_same h).2 hr)]
    by_cases he : ∃ p ∈ l, p.id = id
    · rw [if_pos he, if_pos (dropE_same1 (sameP_symm h) he)]
    · rw [if_neg he, if_neg (fun e => he (dropE_same1 h e))]
  · rw [if_neg hr, if_neg (fun e => hr ((right_same h).1 e))]
theorem sameP_nil {L : List Pt} (h : sameP L []) : L = [] := List.length_eq_zero_iff.1 h.1
theorem sameP_cons_mk {p q : Pt} {L l : List Pt} (h1 : p.id = q.id) (h2 : p.fs = q.fs) (h : sameP L l) : sameP (p :: L) (q :: l) := by
  refine ⟨by simp [h.1], fun i hi => ?_⟩
  cases i with
  | zero => exact ⟨h1, h2⟩
  | succ i => simpa using h.2 i (by simpa using hi)
theorem dropL_same {L l : List Pt} {id : Int} (h : sameP L l) : sameP (dropL L id) (dropL l id) := by
  induction L generalizing l with
  | nil =>
    cases l with
    | nil => exact sameP_refl _
    | cons q l => have := h.1; simp at this
  | cons p L ih =>
    cases l with
    | nil => have := h.1; simp at this
    | cons q l =>
      obtain ⟨h1, h2, h3⟩ := sameP_cons h
      have hi := ih h3
      unfold dropL at hi ⊢
      by_cases hid : p.id = id
      · rw [List.filter_cons_of_neg (by simp [hid]), List.filter_cons_of_neg (by simp [← h1, hid])]
        exact hi
      · rw [List.filter_cons_of_pos (by simp [hid]), List.filter_cons_of_pos (by simp [← h1, hid])]
        exact sameP_cons_mk h1 h2 hi
set_option maxRecDepth 100000 in
set_option maxHeartbeats 8000000 in
theorem sdrop_small (A : Option Addr) (n c : Nat) (id : Int) (l : List Pt) (W : World) (hl : l.length = n) (hA : RdP W W.heap.size A l) (ho : okA l) :
    Calls Try.prog 7 #[.slice A n c, .int .u64 id] W fun e W' => e = .returned (.bool true) ∧ Below W.heap.size W W' := by
  have HLN := Lib.hid hl
  have HA := Lib.hid hA
  have HG := Lib.hid (great_any A c l W hA)
  have HRD := Lib.hid (fun (w' : World) (h : Below W.heap.size W w') => rdrop_any A c id l w' ((hA.below h).more h.size (Nat.le_refl _)))
  rw [hl] at HG HRD
  have HO := Lib.hid ho
  clear hl hA ho
  go_enter Try.func7, Try.ntmps7
  go_wp2_with (fail)
  refine HG.out.mono ?_
  rintro e w' ⟨⟨b, rfl, hsm⟩, rfl⟩
  cases b with
  | true =>
    clear hsm
    go_wp2_with (go_at_call 11; refine (awake_any _).mono ?_; rintro e w3 ⟨rfl, hb3⟩)
    go_ret
    exact ⟨rfl, hb3⟩
  | false =>
    have HSM := Lib.hid (hsm rfl)
    have hn20 : n ≤ 20 := by have := HSM.out.1; rw [HLN.out] at this; exact this
    have hf300 : ∀ p ∈ l, p.fs.length ≤ 100000 := fun p hp => by have := HSM.out.2 p hp; omega
    have HF := Lib.hid hf300
    clear hf300 hsm
    go_wp2_with ((go_at_call 12; refine Hid.out ?_))
    refine Lib.hid ?_
    refine (copy_len A n c l W HLN.out HA.out (by omega) HF.out HO.out).mono ?_
    rintro e w4 ⟨g1, c1, L1, rfl, hc1, hs1, hg1, hg1', hr1, hm1, hb4⟩
    have HS1 := Lib.hid hs1
    have HR1 := Lib.hid hr1
    have HM1 := Lib.hid hm1
    have hz4 := hb4.size
    have HB4 := Lib.hid hb4
    have hL1 : Hid (L1.length = n) := Lib.hid (by rw [hs1.1, HLN.out])
    clear hs1 hr1 hm1 hb4
    go_wp2_with ((go_at_call 26; refine Hid.out ?_))
    refine Lib.hid ?_
    have HAD := Lib.hid (drop_any (some ⟨g1, 0, none⟩) c1 id L1 w4 HR1.out)
    rw [hL1.out] at HAD
    refine HAD.out.mono ?_
    rintro e w5 ⟨v, rfl, hv0, hv1, hb5⟩
    rw [dropE_same HS1.out] at hv0 hv1 ⊢
    have HV0 := Lib.hid hv0
    have HV1 := Lib.hid hv1
    have hz5 := hb5.size
    have HB45 := Lib.hid hb5
    have HB5 := Lib.hid (HB4.out.trans (hb5.mono hz4))
    clear hv0 hv1 hb5 HAD
    go_wp2_with ((go_at_call 27; refine Hid.out ?_))
    refine Lib.hid ?_
    refine (HRD.out w5 HB5.out).mono ?_
    rintro e w6 ⟨v2, rfl, hy0, hy1, hb6⟩
    have hz6 := hb6.size
    have HB56 := Lib.hid hb6
    have HB46 := Lib.hid (HB45.out.trans (hb6.mono hz5))
    have HB6 := Lib.hid (HB5.out.trans (hb6.mono HB5.out.size))
    have HY0 := Lib.hid hy0
    have HY1 := Lib.hid hy1
    clear hy0 hy1 hb6
    obtain ⟨r, hr⟩ : ∃ r, dropE l id = r := ⟨_, rfl⟩
    rw [hr] at HV0 HV1 HY0 HY1 ⊢
    clear hr
    -- the two lists are the same
    have HSAME : Hid (Calls Try.prog 15 #[v, v2] w6 fun e w' => e = .returned (.bool true) ∧ Below w6.heap.size w6 w') := Lib.hid (by
      by_cases hr0 : r = 0
      · obtain ⟨A5, c5, l5, rfl, hs5, ho5⟩ := HV1.out hr0
        obtain ⟨A6, c6, rfl, hr6⟩ := HY1.out hr0
        have hs : sameP l5 (dropL l id) := sameP_trans hs5 (dropL_same HS1.out)
        have h1 := same_any A5 A6 c5 c6 l5 (dropL l id) w6 (by rw [hs.1]; have := dropL_len l id; rw [HLN.out] at this; omega) (fun p hp => by
          obtain ⟨p', hp', _, e⟩ := sameP_mem hs hp
          rw [e]
          have := HF.out p' (List.mem_filter.1 hp').1
          omega) ((ho5.rd.below HB56.out).more hz6 (Nat.le_refl _)) hr6
        rw [eqP_t hs, hs.1] at h1
        rw [← hs5.1, hs.1]
        exact h1
      · have hv := HV0.out hr0
        have hv2 := HY0.out hr0
        subst hv hv2
        have h1 := same_any none none 0 0 [] [] w6 (by simp) (by simp) ⟨fun h => by simp at h, by simp⟩ ⟨fun h => by simp at h, by simp⟩
        rw [eqP_t (sameP_refl [])] at h1
        exact h1)
    clear HV0 HV1 HY0 HY1
    go_wp2_with ((go_at_call 15; refine Hid.out ?_))
    refine Lib.hid ?_
    refine HSAME.out.mono ?_
    rintro e w7 ⟨rfl, hb7⟩
    have hz7 := hb7.size
    have HB47 := Lib.hid (HB46.out.trans (hb7.mono (Nat.le_trans hz5 hz6)))
    have HB7 := Lib.hid (HB6.out.trans (hb7.mono HB6.out.size))
    have HM7 := Lib.hid ((HB47.out.cell (p := ⟨g1, n * 2, none⟩) hg1').trans HM1.out)
    have hf1 : ∀ p ∈ L1, p.fs.length ≤ 1000000 := fun p hp => by
      obtain ⟨p', hp', _, e⟩ := sameP_mem HS1.out hp
      rw [e]
      have := HF.out p' hp'
      omega
    have HF1 := Lib.hid hf1
    have hg17 : g1 < w7.heap.size := by omega
    clear hb7 hf1 HSAME
    go_wp2_with ((go_at_call 18; refine Hid.out ?_))
    refine Lib.hid ?_
    refine (kept_any g1 c1 A c n L1 l w7 hL1.out HLN.out (by omega) HF1.out hc1 ((HR1.out.below HB47.out).more HB47.out.size (Nat.le_refl _)) ((HA.out.below HB7.out).more HB7.out.size (Nat.le_refl _)) hg17 HM7.out).mono ?_
    rintro e w8 ⟨rfl, hb8⟩
    rw [eqP_t HS1.out]
    have HB8 := Lib.hid (HB7.out.trans (hb8.mono HB7.out.size))
    clear hb8
    go_wp2_with (go_at_call 11; refine (awake_any _).mono ?_; rintro e wo ⟨rfl, hbo⟩)
    go_ret
    exact ⟨rfl, HB8.out.trans (hbo.mono HB8.out.size)⟩
theorem drop_walk (A : Option Addr) (c : Nat) (l : List Pt) (id : Int) (W : World) (o : RdP W W.heap.size A l ∧ l.length ≤ c ∧ l.length ≤ maxLen ∧ (A = none → c = 0) ∧ okA l) (k : (Lit.int .u64 id).wf = true) :
    Calls Try.prog 7 #[.slice A l.length c, .int .u64 id] W fun e w' => e = .returned (.bool true) ∧ Below W.heap.size W w' :=
  sdrop_small A l.length c id l W rfl o.1 o.2.2.2.2
end Go.Proofs.Ytmalcekbhnkfgaa
