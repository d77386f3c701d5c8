/- Contract of the reference's Crash. Conditions: as each theorem states them. -/
import Derived.Test.YtjgiohlkpenipaaK2
namespace Go.Proofs.Ytjgiohlkpenipaa
open Go.RowKit Go.Maps
set_option linter.unusedVariables false
set_option linter.unusedSimpArgs false

/-- A call without results has left the reference's disk so. -/
def EndR (w : World) (b : Nat) (s' : DS) (r : Ending) (w' : World) : Prop := r = .returned (.tuple #[]) ∧ (∃ v', RefAt w' b v' s') ∧ Kw (fun x => x = b) w w'
theorem EndR.mk {w w' : World} {b : Nat} {s' : DS} {r : Ending} (h1 : r = .returned (.tuple #[])) (h2 : ∃ v', RefAt w' b v' s') (h3 : Kw (fun x => x = b) w w') : EndR w b s' r w' := ⟨h1, h2, h3⟩
/-- A crash, from the files that come of it. -/
theorem crash_form (s : DS) (cs : List Int) {l : Dir} (hl : alts s.kept (s.waits.take (pick cs (s.waits.length + 1))) = l) :
    s.crash cs = { s with files := (cutAll l (s.keep (pick cs (s.waits.length + 1))) cs.tail).1.files, dir := l, kept := l, waits := [], fuse := 0, down := false } := by
  unfold DS.crash
  have hk : (s.keep (pick cs (s.waits.length + 1))).kept = l := hl
  rw [hk]
  obtain ⟨h1, h2, h3, h4⟩ := cutAll_dir l (s.keep (pick cs (s.waits.length + 1))) cs.tail
  obtain ⟨h5, h6⟩ := cutAll_rest l (s.keep (pick cs (s.waits.length + 1))) cs.tail
  generalize (cutAll l (s.keep (pick cs (s.waits.length + 1))) cs.tail).1 = t at *
  unfold DS.boot
  rw [h1, hk]
  have h5 : t.room = s.room := h5
  have h6 : t.steps = s.steps := h6
  rw [h5, h6]
theorem cut_drop {cs : List Int} {k : Nat} {f : Fl} (h : f.sure < f.data.size) : cutF (cs.drop k) f = (⟨f.data.extract 0 (f.sure + pick (cs.drop k) (f.data.size - f.sure + 1)), f.sure + pick (cs.drop k) (f.data.size - f.sure + 1)⟩, cs.drop (k + 1)) := by
  unfold cutF
  rw [if_pos h, List.tail_drop]
theorem cut_none {cs : List Int} {f : Fl} (h : ¬ f.sure < f.data.size) : cutF cs f = (f, cs) := by
  unfold cutF
  rw [if_neg h]
theorem RefAt.file2 {W : World} {b g c q : Nat} {v : Rv} {s : DS} (h : RefAt W b v s) (hv : v.f = .slice (some ⟨g, 0, none⟩) s.files.length c) (hq : q < s.files.length) (E : ByteArray) (N : Nat) :
    RefAt ((W.setCell ⟨g, q * 2, none⟩ (.string E)).setCell ⟨g, q * 2 + 1, none⟩ (.int .i64 N)) b v { s with files := s.files.set q ⟨E, N⟩ } := by
  have h1 := h.file1 (u := .string E) hv (by rw [fcells_len]; omega) (fcells_data s.files q hq E) (by rw [List.length_set])
  have hq2 : q < (s.files.set q ⟨E, (s.files[q]).sure⟩).length := by rw [List.length_set]; exact hq
  refine h1.file1 (c := c) (u := .int .i64 N) (l := s.files.set q ⟨E, N⟩) ?_ (by show _ < (fcells (s.files.set q _)).length; rw [fcells_len, List.length_set]; omega) ?_ ?_
  · show v.f = .slice _ (s.files.set q _).length c
    rw [List.length_set]
    exact hv
  · show (fcells (s.files.set q _)).set _ _ = _
    rw [fcells_sure _ q hq2 N, List.set_set]
    simp
  · show (s.files.set q _).length = (s.files.set q _).length
    rw [List.length_set, List.length_set]
set_option maxRecDepth 100000 in
set_option maxHeartbeats 16000000 in
theorem rcrash_any (b : Nat) (v : Rv) (s : DS) (cs : List Int) (A : Option Addr) (c : Nat) (w : World) (h : RefAt w b v s) (iv : Inv s) (hf : s.files.length ≤ s.steps) (fa : ∀ i, s.has i → i < s.files.length)
    (wk : ∀ d ∈ s.waits, d.frm = ByteArray.empty → d.to ≠ ByteArray.empty) (hA : RdC w A cs) (hoff : 0 < cs.length → ∀ a, A = some a → a.block ≠ b) :
    Calls Try.prog 59 #[ptrV b, .slice A cs.length c] w (EndR w b (s.crash cs)) := by
  obtain ⟨Af, cf, Ad, cd, Ak, ck, Aw, cw, rfl⟩ := h.2.forms
  have H := Lib.hid h
  have IV := Lib.hid iv
  have HFA := Lib.hid fa
  have HWK := Lib.hid wk
  obtain ⟨m, hm⟩ : ∃ m, cs.length = m := ⟨_, rfl⟩
  rw [hm]
  have HCH : Hid (∀ W, Kw (fun x => x = b) w W → ∀ k n, 0 < n → n ≤ 1000000000000 → Calls Try.prog 76 #[.slice A m c, .int .i64 ((k : Nat) : Int), .int .i64 ((n : Nat) : Int)] W fun e w' => e = .returned (.int .i64 (pick (cs.drop k) n : Nat)) ∧ W = w') := Lib.hid (fun W kw k n h1 h2 => by
    rw [← hm]
    exact choice_any k n cs A c W (hA.kw kw (fun hp a ha => hoff hp a ha)) h1 h2)
  obtain ⟨NW, hNW⟩ : ∃ n, s.waits.length = n := ⟨_, rfl⟩
  obtain ⟨NK, hNK⟩ : ∃ n, s.kept.length = n := ⟨_, rfl⟩
  obtain ⟨NF, hNF⟩ : ∃ n, s.files.length = n := ⟨_, rfl⟩
  have HNW := Lib.hid hNW
  have HNK := Lib.hid hNK
  have HNF := Lib.hid hNF
  obtain ⟨n0, hn0⟩ : ∃ n, pick cs (s.waits.length + 1) = n := ⟨_, rfl⟩
  have hnl : n0 ≤ NW := by
    have := pick_lt cs (n := s.waits.length + 1) (by omega)
    omega
  have HN0 := Lib.hid hn0
  have hst : s.steps ≤ 1000000 := iv.ok.st
  have hkl : NK + NW ≤ 1000000 := by have := iv.ok.kl; omega
  have hfl : NF ≤ 1000000 := by omega
  have HC0 : Hid (Calls Try.prog 76 #[.slice A m c, .int .i64 0, .int .i64 ((NW : Int) + 1)] w fun e w' => e = .returned (.int .i64 (n0 : Nat)) ∧ w = w') := Lib.hid (by
    have h1 := HCH.out w (Kw.refl _ _) 0 (NW + 1) (by omega) (by omega)
    rw [show ((NW + 1 : Nat) : Int) = (NW : Int) + 1 from by push_cast; rfl, List.drop_zero, ← hNW, hn0, hNW] at h1
    exact h1)
  obtain ⟨l, hl⟩ : ∃ l, alts s.kept (s.waits.take n0) = l := ⟨_, rfl⟩
  have HL := Lib.hid hl
  have hll : l.length ≤ 1000000 := by
    have h1 := alts_len s.kept (s.waits.take n0)
    rw [List.length_take, hl] at h1
    omega
  have HLB : Hid (∀ i, (alts s.kept (s.waits.take i)).length ≤ 1000000) := Lib.hid (fun i => by
    have h1 := alts_len s.kept (s.waits.take i)
    rw [List.length_take] at h1
    omega)
  have HRES := Lib.hid (crash_form s cs (l := l) (by rw [hn0, hl]))
  rw [hn0] at HRES
  obtain ⟨res, hres⟩ : ∃ r, s.crash cs = r := ⟨_, rfl⟩
  rw [hres] at HRES ⊢
  have hsub : ∀ p ∈ l, p.2 < NF := fun p hp => by
    rw [← hl] at hp
    rw [← hNF]
    rcases mem_alts (n := p.1) (i := p.2) hp with h | ⟨ch, hc, h⟩
    · exact fa _ (.inr (.inl ⟨_, h⟩))
    · exact fa _ (.inr (.inr ⟨ch, List.mem_of_mem_take hc, h⟩))
  have HSUB := Lib.hid hsub
  obtain ⟨_, _, _, _, a4, _, a6, a7⟩ := h.c
  have bl := h.lt
  have hrk := h.2.k
  have hrw := h.2.w
  dsimp only at a4 a6 a7 hrk hrw
  rw [hNK] at a6 hrk
  rw [hNW] at a7 hrw
  rw [hNF] at a4
  rw [hNW, hNK, hNF] at H
  have HRW := Lib.hid hrw
  have k0 := bl_alloc (Below.refl w.heap.size w) (Obj.cells #[] 104)
  have HE0 : Hid ((w.alloc (Obj.cells #[] 104)).ownsRow w.heap.size 104 2 (.slice (some ⟨w.heap.size, 0, none⟩) 0 0) 0 []) := Lib.hid (em_own (new_heap _ _) (Nat.le_refl _))
  have HK0 := Lib.hid k0
  have HRK := Lib.hid (own_kw hrk (Kw.ofBelow (S := fun _ => False) k0) (fun _ _ e => e))
  have HB0 : Hid (0 + NK ≤ 4000000) := Lib.hid (by omega)
  clear h iv hf fa wk hA hoff hm hNW hNK hNF hn0 hl hres hsub hrk hrw k0
  unfold ptrV at *
  go_enter Try.func59, Try.ntmps59
  go_wp2_with (fail)
  refine HC0.out.mono ?_
  rintro r w' ⟨rfl, rfl⟩
  go_wp2_with (at_builtin; refine wpList_append_row _ rfl (.tmp 18) (.tmp 22) 49 104 2 24 _ und49 i104 rfl (by decide) (by decide) rfl w.heap.size 0 0 (.slice (some ⟨w.heap.size, 0, none⟩) 0 0) [] rfl HE0.out (.slice Ak NK ck) NK (ecells s.kept) rfl HRK.out (ecells_one _) HB0.out HK0.out.size ?_; intro v1 w1 hown1 hgr1)
  rw [Nat.zero_add, List.nil_append] at hown1
  have HO1 := Lib.hid hown1
  have HB1 := Lib.hid (bl_grow HK0.out HK0.out.size HE0.out hgr1)
  clear hown1 hgr1 HC0 HE0 HK0 HRK HB0
  go_wp2_with (fail)
  go_loopw [5, 6] (fun vl vi wr => ∃ i : Nat, i ≤ n0 ∧ vi = .int .i64 i ∧ wr.ownsRow w.heap.size 104 2 vl (alts s.kept (s.waits.take i)).length (ecells (alts s.kept (s.waits.take i))) ∧ Below w.heap.size w wr) (fun _ i _ => n0 - (intOf i).toNat)
  case atStart => exact ⟨0, Nat.zero_le _, rfl, by rw [List.take_zero]; show World.ownsRow _ _ _ _ _ s.kept.length (ecells s.kept); rw [HNK.out]; exact HO1.out, HB1.out⟩
  case round =>
    clear a4 a6 bl
    obtain ⟨i, hin, rfl, hown, hbl⟩ := hrel
    have HO := Lib.hid hown
    have HBL := Lib.hid hbl
    have hz := hbl.size
    clear hown hbl
    by_cases hi : i < n0
    · have hi0 : (0 : Int) ≤ (i : Int) := by omega
      have hi1 : (i : Int) < (n0 : Int) := by omega
      have hi2 : (i : Int) < (NW : Int) := by omega
      have hiw : i < s.waits.length := by rw [HNW.out]; omega
      obtain ⟨gw, rfl⟩ : ∃ g, Aw = some ⟨g, 0, none⟩ := by
        rcases HRW.out.2 with ⟨h0, h1⟩ | ⟨g, c, cur, h0, _⟩
        · omega
        · cases h0; exact ⟨g, rfl⟩
      obtain ⟨gl, _, gc, _, _⟩ := row_cells HRW.out
      obtain ⟨e0, e1, e2, e3⟩ := ccells_at hiw
      have r0 := (HBL.out.cell (p := ⟨gw, _, none⟩) gl).trans (gc _ _ e0)
      have r1 := (HBL.out.cell (p := ⟨gw, _, none⟩) gl).trans (gc _ _ e1)
      have r2 := (HBL.out.cell (p := ⟨gw, _, none⟩) gl).trans (gc _ _ e2)
      have r3 := (HBL.out.cell (p := ⟨gw, _, none⟩) gl).trans (gc _ _ e3)
      have b7 := (HBL.out.cell (p := ⟨b, 7, none⟩) H.out.lt).trans a7
      have bl := Nat.lt_of_lt_of_le H.out.lt hz
      have gl2 : gw < wr.heap.size := by omega
      obtain ⟨d, hd⟩ : ∃ d, s.waits[i] = d := ⟨_, rfl⟩
      have HT : Hid (alts s.kept (s.waits.take (i + 1)) = alt (alts s.kept (s.waits.take i)) d) := Lib.hid (by
        rw [alts_take hiw, List.getD_eq_getElem?_getD, List.getElem?_eq_getElem hiw]
        show alt _ s.waits[i] = _
        rw [hd])
      have hdw : d ∈ s.waits := by rw [← hd]; exact List.getElem_mem _
      have HDO := Lib.hid (done_any u5 (alts s.kept (s.waits.take i)) d wr (row_base HO.out (Nat.zero_le _)) (by have := HLB.out i; omega) (HWK.out d hdw))
      unfold rchV at HDO
      rw [hd] at r0 r1 r2 r3
      obtain ⟨kd, hkd⟩ : ∃ kd, kindC d = kd := ⟨_, rfl⟩
      rw [hkd] at r0 HDO
      obtain ⟨frm, to, fi⟩ := d
      dsimp only at r1 r2 r3 HDO
      clear gc e0 e1 e2 e3 hd hdw hkd hiw
      go_wp2_with (fail)
      refine HDO.out.mono ?_
      rintro r w2 ⟨v2, rfl, h2, hb2⟩
      have HO2 := Lib.hid h2
      have HB2 := Lib.hid (HBL.out.trans (hb2.mono hz))
      clear h2 hb2
      go_wp2_with (fail)
      exact ⟨⟨i + 1, by omega, by push_cast; rfl, by rw [HT.out]; exact row_base HO2.out hz, HB2.out⟩, by simp [intOf]; omega⟩
    · have hi1 : ¬ (i : Int) < (n0 : Int) := by omega
      have hie : i = n0 := by omega
      subst hie
      obtain ⟨Al, cl, rfl, hlc, _⟩ := own_slice HO.out
      have HRL : Hid (wr.ownsRow w.heap.size 104 2 (.slice Al l.length cl) l.length (ecells l)) := Lib.hid (by
        have h1 := HO.out
        rw [HL.out] at h1
        exact h1)
      rw [HL.out]
      obtain ⟨nl, hnl2⟩ : ∃ n, l.length = n := ⟨_, rfl⟩
      have HNL := Lib.hid hnl2
      rw [hnl2] at HRL hll ⊢
      have R1 := Lib.hid (H.out.below HBL.out)
      have K1 : Hid (Kw (fun x => x = b) w wr) := Lib.hid (Kw.ofBelow HBL.out)
      clear hlc HO HBL hnl2 a7
      have HF : Hid (∀ z, Below wr.heap.size wr z → z.ownsRow 0 97 2 (.slice Af NF cf) NF (fcells s.files) ∧ z.cell? ⟨b, 4, none⟩ = some (.slice Af NF cf) ∧ z.frozen? ⟨b, 4, none⟩ = false ∧ b < z.heap.size) := Lib.hid (fun z k => by
        have hz := R1.out.below k
        have h1 := hz.2.f
        have h2 := hz.c.2.2.2.2.1
        rw [HNF.out] at h1
        exact ⟨h1, h2, hz.fz 4, hz.lt⟩)
      obtain ⟨c0, cz⟩ := (HF.out wr (Below.refl _ _)).2
      obtain ⟨cz, cl2⟩ := cz
      have k0 := bl_alloc (Below.refl wr.heap.size wr) (Obj.cells #[] 97)
      have HE0 : Hid ((wr.alloc (Obj.cells #[] 97)).ownsRow wr.heap.size 97 2 (.slice (some ⟨wr.heap.size, 0, none⟩) 0 0) 0 []) := Lib.hid (em_own (new_heap _ _) (Nat.le_refl _))
      have HF0 := Lib.hid (HF.out _ k0).1
      have HK0 := Lib.hid k0
      have HNN : Hid (0 + NF ≤ 4000000) := Lib.hid (by omega)
      clear k0 cz
      go_wp2_with (at_builtin; refine wpList_append_row _ rfl (.tmp 39) (.tmp 43) 48 97 2 24 _ und48 i97 rfl (by decide) (by decide) rfl wr.heap.size 0 0 (.slice (some ⟨wr.heap.size, 0, none⟩) 0 0) [] rfl HE0.out (.slice Af NF cf) NF (fcells s.files) rfl HF0.out (fcells_one _) HNN.out HK0.out.size ?_; intro v1 w4 hown2 hgr1; have hbB := bl_grow HK0.out HK0.out.size HE0.out hgr1; obtain ⟨A4, c4, rfl, _, hg4⟩ := own_slice hown2; obtain ⟨_, sc, sf, sl⟩ := HF.out w4 hbB)
      have hR2 : RefAt (w4.setCell ⟨b, 4, none⟩ (.slice A4 NF c4)) b ⟨.slice A4 NF c4, .slice Ad s.dir.length cd, .slice Ak NK ck, .slice Aw NW cw⟩ s := by
        have hll : 0 + NF = s.files.length := by rw [HNF.out]; omega
        rw [hll, List.nil_append] at hown2
        have hz := (R1.out.below hbB).setF hown2
        rw [← hll, Nat.zero_add] at hz
        exact hz
      have hK2 := K1.out.trans ((Kw.ofBelow (S := fun x => x = b) hbB).setCell (p := ⟨b, 4, none⟩) rfl (.slice A4 NF c4))
      have hbne : ∀ q, (Value.slice Al nl cl).ownBlock = some q → ¬ q = b := fun q hq e => by
        obtain ⟨_, cur, h3⟩ := own_blk HRL.out hq
        rw [e, R1.out.1] at h3
        cases h3
      have HRL2 : Hid ((w4.setCell ⟨b, 4, none⟩ (.slice A4 NF c4)).ownsRow 0 104 2 (.slice Al nl cl) nl (ecells l)) := Lib.hid (row_base (own_kw HRL.out ((Kw.ofBelow (S := fun x => x = b) hbB).setCell (p := ⟨b, 4, none⟩) rfl (.slice A4 NF c4)) hbne) (Nat.zero_le _))
      have HG4 : Hid (∀ g, A4 = some ⟨g, 0, none⟩ → w.heap.size ≤ g) := Lib.hid (fun g e => by
        subst e
        have := (own_blk hown2 (g := g) rfl).1
        omega)
      have HR2 := Lib.hid hR2
      have HK2 := Lib.hid hK2
      clear hown2 hgr1 hbB sc sf sl hR2 hK2 hbne c0 cl2 hg4 HF HF0 HK0 HE0 HRL HNN HO1 HB1 K1 R1 HL HLB HWK HRW hz
      go_wp2_with (fail)
      generalize (w4.setCell ⟨b, 4, none⟩ (.slice A4 NF c4)) = W4 at *
      go_loopw [7, 8] (fun vk vj wz => ∃ j : Nat, j ≤ nl ∧ vj = .int .i64 j ∧ ∃ k : Nat, vk = .int .i64 k ∧ k ≤ j + 1 ∧ ∃ s2, cutAll (l.take j) (s.keep i) cs.tail = (s2, cs.drop k) ∧ OkF s2 ∧ s2.files.length = NF ∧ RefAt wz b ⟨.slice A4 NF c4, .slice Ad s.dir.length cd, .slice Ak NK ck, .slice Aw NW cw⟩ { s with files := s2.files } ∧ wz.ownsRow 0 104 2 (.slice Al nl cl) nl (ecells l) ∧ Kw (fun x => x = b) w wz) (fun _ j _ => nl - (intOf j).toNat)
      case atStart => exact ⟨0, Nat.zero_le _, rfl, 1, rfl, Nat.le_refl _, s.keep i, by rw [List.take_zero, List.drop_one]; rfl, fun q => ⟨IV.out.ok.su q, by
        have h1 := IV.out.ok.fs q
        show (s.file q).data.size ≤ 3000000000
        omega⟩, HNF.out, HR2.out, HRL2.out, HK2.out⟩
      case round =>
        obtain ⟨j, hjl, rfl, k, rfl, hkj, s2, hcut, hof, hfl2, href, hrl, hkw⟩ := hrel
        have HCUT := Lib.hid hcut
        have HOF := Lib.hid hof
        have HFL := Lib.hid hfl2
        have HREF := Lib.hid href
        have HRL := Lib.hid hrl
        have HKW := Lib.hid hkw
        clear hcut hof hfl2 href hrl hkw
        by_cases hj : j < nl
        · have hj0 : (0 : Int) ≤ (j : Int) := by omega
          have hj1 : (j : Int) < (nl : Int) := by omega
          have hjl2 : j < l.length := by rw [HNL.out]; exact hj
          obtain ⟨gd, rfl⟩ : ∃ g, Al = some ⟨g, 0, none⟩ := by
            rcases HRL.out.2 with ⟨h0, h1⟩ | ⟨g, c, cur, h0, _⟩
            · omega
            · cases h0; exact ⟨g, rfl⟩
          obtain ⟨gdl, _, gdc, _, _⟩ := row_cells HRL.out
          have d1 := gdc _ _ (ecells_at hjl2).2
          obtain ⟨q, hq⟩ : ∃ q, (l[j]).2 = q := ⟨_, rfl⟩
          have hqf : q < NF := by rw [← hq]; exact HSUB.out _ (List.getElem_mem hjl2)
          rw [hq] at d1
          have hrf : wr.ownsRow 0 97 2 (.slice A4 NF c4) NF (fcells s2.files) := by
            have h1 := HREF.out.2.f
            dsimp only at h1
            rw [HFL.out] at h1
            exact h1
          obtain ⟨g, rfl⟩ : ∃ g, A4 = some ⟨g, 0, none⟩ := by
            rcases hrf.2 with ⟨h0, h1⟩ | ⟨g, c, cur, h0, _⟩
            · omega
            · cases h0; exact ⟨g, rfl⟩
          have HGB : Hid (w.heap.size ≤ g) := Lib.hid (HG4.out g rfl)
          obtain ⟨gfl, _, gfc, gff, _⟩ := row_cells hrf
          have hq2 : q < s2.files.length := by rw [HFL.out]; exact hqf
          have f0 := gfc _ _ (fcells_at hq2).1
          have f1 := gfc _ _ (fcells_at hq2).2
          have z0 := gff (q * 2)
          have z1 := gff (q * 2 + 1)
          have b4 := HREF.out.c.2.2.2.2.1
          have bl := HREF.out.lt
          obtain ⟨fq, hfq⟩ : ∃ f, s2.files[q] = f := ⟨_, rfl⟩
          rw [hfq] at f0 f1
          have hsu := HOF.out q
          rw [file_at hq2, hfq] at hsu
          have HSN : Hid (cutAll (l.take (j + 1)) (s.keep i) cs.tail = (s2.setF q (cutF (cs.drop k) fq).1, (cutF (cs.drop k) fq).2)) := Lib.hid (by
            rw [List.take_succ_eq_append_getElem hjl2, cutAll_snoc, HCUT.out]
            dsimp only
            rw [hq, file_at hq2, hfq])
          have HFQ := Lib.hid hfq
          have HQ2 := Lib.hid hq2
          obtain ⟨D, su⟩ := fq
          dsimp only at f0 f1 b4 hsu
          obtain ⟨hsu, hsz⟩ := hsu
          have hq0 : (0 : Int) ≤ (q : Int) := by omega
          have hq1 : (q : Int) < (NF : Int) := by omega
          clear gdc gfc gff hq hfq hrf hjl2
          by_cases hcu : su < D.size
          · have hcui : (su : Int) < (D.size : Int) := by omega
            go_wp2_with (fail)
            go_region
            go_wp2_with (fail)
            have hb5 : Below wr.heap.size wr (wr.alloc (Obj.cells #[.string D, .int .i64 su] 97)).drew := (bl_alloc (Below.refl _ _) _).drew
            have HB5 := Lib.hid hb5
            have HX5 : Hid ((wr.alloc (Obj.cells #[.string D, .int .i64 su] 97)).drew.heap[wr.heap.size]? = some (Obj.cells #[.string D, .int .i64 su] 97)) := Lib.hid (new_heap _ _)
            clear hb5
            generalize (wr.alloc (Obj.cells #[.string D, .int .i64 su] 97)).drew = W5 at *
            have x0 := cell_of HX5.out 0
            have x1 := cell_of HX5.out 1
            simp only [List.getElem?_toArray, List.getElem?_cons_zero, List.getElem?_cons_succ] at x0 x1
            have fx0 := froz_of HX5.out 0
            have fx1 := froz_of HX5.out 1
            have xl := (Array.getElem?_eq_some_iff.1 HX5.out).1
            obtain ⟨pq, hpq⟩ : ∃ n, pick (cs.drop k) (D.size - su + 1) = n := ⟨_, rfl⟩
            have hpl := pick_lt (cs.drop k) (n := D.size - su + 1) (by omega)
            rw [hpq] at hpl
            have HPQ := Lib.hid hpq
            have HCK : Hid (Calls Try.prog 76 #[.slice A m c, .int .i64 ((k : Nat) : Int), .int .i64 ((D.size : Int) - (su : Int) + 1)] W5.drew fun e w' => e = .returned (.int .i64 (pq : Nat)) ∧ w' = W5.drew) := Lib.hid (by
              have h1 := HCH.out W5.drew (HKW.out.trans (Kw.ofBelow HB5.out)).drew k (D.size - su + 1) (by omega) (by omega)
              rw [show ((D.size - su + 1 : Nat) : Int) = (D.size : Int) - (su : Int) + 1 from by omega, hpq] at h1
              exact h1.mono (fun e w' ⟨a, b⟩ => ⟨a, b.symm⟩))
            have g1 : (su : Int) + (pq : Int) ≤ (D.size : Int) := by omega
            have g2 : (0 : Int) ≤ (su : Int) + (pq : Int) := by omega
            have g3 : (D.size : Int) - (su : Int) + 1 ≤ 3000000001 := by omega
            have g4 : (0 : Int) ≤ (D.size : Int) - (su : Int) := by omega
            clear hpq hpl
            have hw1 : IntKind.i64.wrap ((D.size : Int) - (su : Int)) = (D.size : Int) - (su : Int) := IntWalk.i64_in _ (by omega)
            have hw2 : IntKind.i64.wrap ((D.size : Int) - (su : Int) + 1) = (D.size : Int) - (su : Int) + 1 := IntWalk.i64_in _ (by omega)
            have hw3 : IntKind.i64.wrap ((su : Int) + (pq : Int)) = (su : Int) + (pq : Int) := IntWalk.i64_in _ (by omega)
            have ht : ((su : Int) + (pq : Int)).toNat = su + pq := by omega
            go_still_tail 17, (by kernel_rfl)
            still_call HCK.out
            repeat still_step
            refine wpStill_nil ?_
            change wpList _ _ _ _ _ W5.drew
            have x0 : W5.drew.cell? ⟨wr.heap.size, 0, none⟩ = some (.string D) := x0
            have x1 : W5.drew.cell? ⟨wr.heap.size, 1, none⟩ = some (.int .i64 su) := x1
            have fx0 : W5.drew.frozen? ⟨wr.heap.size, 0, none⟩ = false := fx0
            have fx1 : W5.drew.frozen? ⟨wr.heap.size, 1, none⟩ = false := fx1
            have xl : wr.heap.size < W5.drew.heap.size := xl
            have HB6 : Hid (Below wr.heap.size wr W5.drew) := Lib.hid HB5.out.drew
            have HX6 : Hid (W5.drew.heap[wr.heap.size]? = some (Obj.cells #[.string D, .int .i64 su] 97)) := Lib.hid HX5.out
            have HOK : Hid (su + pq ≤ (D.extract 0 (su + pq)).size ∧ (D.extract 0 (su + pq)).size ≤ 3000000000) := Lib.hid (by
              rw [ByteArray.size_extract]
              omega)
            have HMIN : Hid (min (su + pq) D.size = su + pq) := Lib.hid (by omega)
            clear HCK HB5 HX5 hw1 hw2 hw3 ht
            generalize W5.drew = W6 at *
            go_wp2_with (fail)
            rw [HMIN.out]
            have HB7 : Hid (Below wr.heap.size wr ((W6.setCell ⟨wr.heap.size, 0, none⟩ (.string (D.extract 0 (su + pq)))).setCell ⟨wr.heap.size, 1, none⟩ (.int .i64 (su + pq : Nat)))) := Lib.hid ((HB6.out.setCell (Nat.le_refl _) _).setCell (Nat.le_refl _) _)
            have HX7 : Hid (((W6.setCell ⟨wr.heap.size, 0, none⟩ (.string (D.extract 0 (su + pq)))).setCell ⟨wr.heap.size, 1, none⟩ (.int .i64 (su + pq : Nat))).heap[wr.heap.size]? = some (Obj.cells #[.string (D.extract 0 (su + pq)), .int .i64 (su + pq : Nat)] 97)) := Lib.hid (set_heap (i := 1) (set_heap (i := 0) HX6.out))
            clear HB6 HX6 x0 x1 fx0 fx1 xl g1 g2 g3 g4
            generalize ((W6.setCell ⟨wr.heap.size, 0, none⟩ (.string (D.extract 0 (su + pq)))).setCell ⟨wr.heap.size, 1, none⟩ (.int .i64 (su + pq : Nat))) = W7 at *
            have HCN : Hid (cutF (cs.drop k) ⟨D, su⟩ = (⟨D.extract 0 (su + pq), su + pq⟩, cs.drop (k + 1))) := Lib.hid (by
              rw [cut_drop (show (⟨D, su⟩ : Fl).sure < (⟨D, su⟩ : Fl).data.size from hcu)]
              show (_, _) = (_, _)
              dsimp only
              rw [HPQ.out])
            obtain ⟨E, hE⟩ : ∃ E, D.extract 0 (su + pq) = E := ⟨_, rfl⟩
            obtain ⟨N, hN⟩ : ∃ N, su + pq = N := ⟨_, rfl⟩
            rw [hN] at hE
            rw [hN, hE] at HX7 HCN HOK
            clear hN hE HMIN HPQ hcu hcui
            have HFL2 : Hid (s2.setF q ⟨E, N⟩ = { s2 with files := s2.files.set q ⟨E, N⟩ }) := Lib.hid rfl
            have y0 := cell_of HX7.out 0
            have y1 := cell_of HX7.out 1
            simp only [List.getElem?_toArray, List.getElem?_cons_zero, List.getElem?_cons_succ] at y0 y1
            have yl := (Array.getElem?_eq_some_iff.1 HX7.out).1
            have d1 := (HB7.out.cell (p := ⟨gd, _, none⟩) gdl).trans d1
            have gdl5 := Nat.lt_of_lt_of_le gdl HB7.out.size
            have gfl5 := Nat.lt_of_lt_of_le gfl HB7.out.size
            have z0 := (HB7.out.frozen (p := ⟨g, _, none⟩) gfl).trans z0
            have z1 := (HB7.out.frozen (p := ⟨g, _, none⟩) gfl).trans z1
            have b4 := (HB7.out.cell (p := ⟨b, 4, none⟩) bl).trans b4
            have bl5 := Nat.lt_of_lt_of_le bl HB7.out.size
            have w0 := (HB7.out.cell (p := ⟨g, _, none⟩) gfl).trans f0
            have w1 := (HB7.out.cell (p := ⟨g, _, none⟩) gfl).trans f1
            have hgx : g ≠ wr.heap.size := by omega
            go_still_tail 11, (by kernel_rfl)
            try refine wpStill_nil ?_
            change wpList _ _ _ _ _ W7.drew
            have HB8 : Hid (Below wr.heap.size wr W7.drew) := Lib.hid HB7.out.drew
            have z0 : W7.drew.frozen? ⟨g, q * 2, none⟩ = false := z0
            have z1 : W7.drew.frozen? ⟨g, q * 2 + 1, none⟩ = false := z1
            have w0 : W7.drew.cell? ⟨g, q * 2, none⟩ = some (.string D) := w0
            have w1 : W7.drew.cell? ⟨g, q * 2 + 1, none⟩ = some (.int .i64 su) := w1
            have gfl5 : g < W7.drew.heap.size := gfl5
            clear HB7 HX7 y0 y1 yl d1 b4 bl5
            generalize W7.drew = W8 at *
            go_wp2_with (fail)
            have hgdg : ∀ q, (Value.slice (some ⟨gd, 0, none⟩) nl cl).ownBlock = some q → ¬ q = g := fun x hx e => by
              obtain ⟨_, cur, h3⟩ := own_blk HRL.out hx
              obtain ⟨_, cur2, h4⟩ := own_blk HREF.out.2.f (g := g) rfl
              rw [e, h4] at h3
              cases h3
            have HRF := Lib.hid ((HREF.out.below HB8.out).file2 (g := g) (c := c4) (q := q) (by show Value.slice _ NF c4 = .slice _ s2.files.length c4; rw [HFL.out]) HQ2.out E N)
            have HRW := Lib.hid (own_kw (own_kw HRL.out (Kw.ofBelow (S := fun x => x = g) HB8.out) hgdg) (((Kw.refl (fun x => x = g) W8).setCell (p := ⟨g, q * 2, none⟩) rfl (.string E)).setCell (p := ⟨g, q * 2 + 1, none⟩) rfl (.int .i64 N)) hgdg)
            have HKK := Lib.hid (((HKW.out.trans (Kw.ofBelow HB8.out)).setNew (p := ⟨g, q * 2, none⟩) HGB.out (.string E)).setNew (p := ⟨g, q * 2 + 1, none⟩) HGB.out (.int .i64 N))
            have HSS := HSN.out
            rw [HCN.out] at HSS
            exact ⟨⟨j + 1, by omega, by push_cast; rfl, k + 1, by push_cast; rfl, by omega, _, HSS, HOF.out.setF HOK.out HQ2.out, (by show (s2.files.set q _).length = NF; rw [List.length_set]; exact HFL.out), HRF.out, HRW.out, HKK.out⟩, by simp [intOf]; omega⟩
          · have hcue : su = D.size := by omega
            subst hcue
            have hcui : ¬ ((D.size : Nat) : Int) < (D.size : Int) := by omega
            go_wp2_with (fail)
            go_region
            have hb5 : Below wr.heap.size wr (wr.alloc (Obj.cells #[.string D, .int .i64 (D.size : Nat)] 97)).drew := (bl_alloc (Below.refl _ _) _).drew
            have HB5 := Lib.hid hb5
            have HX5 : Hid ((wr.alloc (Obj.cells #[.string D, .int .i64 (D.size : Nat)] 97)).drew.heap[wr.heap.size]? = some (Obj.cells #[.string D, .int .i64 (D.size : Nat)] 97)) := Lib.hid (new_heap _ _)
            clear hb5
            go_wp2_with (fail)
            have HB7 : Hid (Below wr.heap.size wr (wr.alloc (Obj.cells #[.string D, .int .i64 (D.size : Nat)] 97)).drew) := HB5
            have HX7 : Hid ((wr.alloc (Obj.cells #[.string D, .int .i64 (D.size : Nat)] 97)).drew.heap[wr.heap.size]? = some (Obj.cells #[.string D, .int .i64 (D.size : Nat)] 97)) := HX5
            clear HB5 HX5
            generalize (wr.alloc (Obj.cells #[.string D, .int .i64 (D.size : Nat)] 97)).drew = W7 at *
            have HCN : Hid (cutF (cs.drop k) ⟨D, D.size⟩ = (⟨D, D.size⟩, cs.drop k)) := Lib.hid (cut_none (show ¬ D.size < D.size from Nat.lt_irrefl _))
            have HOK : Hid (D.size ≤ D.size ∧ D.size ≤ 3000000000) := Lib.hid ⟨Nat.le_refl _, hsz⟩
            clear hcui hcu
            have HFL2 : Hid (s2.setF q ⟨D, D.size⟩ = { s2 with files := s2.files.set q ⟨D, D.size⟩ }) := Lib.hid rfl
            have y0 := cell_of HX7.out 0
            have y1 := cell_of HX7.out 1
            simp only [List.getElem?_toArray, List.getElem?_cons_zero, List.getElem?_cons_succ] at y0 y1
            have yl := (Array.getElem?_eq_some_iff.1 HX7.out).1
            have d1 := (HB7.out.cell (p := ⟨gd, _, none⟩) gdl).trans d1
            have gdl5 := Nat.lt_of_lt_of_le gdl HB7.out.size
            have gfl5 := Nat.lt_of_lt_of_le gfl HB7.out.size
            have z0 := (HB7.out.frozen (p := ⟨g, _, none⟩) gfl).trans z0
            have z1 := (HB7.out.frozen (p := ⟨g, _, none⟩) gfl).trans z1
            have b4 := (HB7.out.cell (p := ⟨b, 4, none⟩) bl).trans b4
            have bl5 := Nat.lt_of_lt_of_le bl HB7.out.size
            have w0 := (HB7.out.cell (p := ⟨g, _, none⟩) gfl).trans f0
            have w1 := (HB7.out.cell (p := ⟨g, _, none⟩) gfl).trans f1
            have hgx : g ≠ wr.heap.size := by omega
            go_still_tail 11, (by kernel_rfl)
            try refine wpStill_nil ?_
            change wpList _ _ _ _ _ W7.drew
            have HB8 : Hid (Below wr.heap.size wr W7.drew) := Lib.hid HB7.out.drew
            have z0 : W7.drew.frozen? ⟨g, q * 2, none⟩ = false := z0
            have z1 : W7.drew.frozen? ⟨g, q * 2 + 1, none⟩ = false := z1
            have w0 : W7.drew.cell? ⟨g, q * 2, none⟩ = some (.string D) := w0
            have w1 : W7.drew.cell? ⟨g, q * 2 + 1, none⟩ = some (.int .i64 (D.size : Nat)) := w1
            have gfl5 : g < W7.drew.heap.size := gfl5
            clear HB7 HX7 y0 y1 yl d1 b4 bl5
            generalize W7.drew = W8 at *
            go_wp2_with (fail)
            have hgdg : ∀ q, (Value.slice (some ⟨gd, 0, none⟩) nl cl).ownBlock = some q → ¬ q = g := fun x hx e => by
              obtain ⟨_, cur, h3⟩ := own_blk HRL.out hx
              obtain ⟨_, cur2, h4⟩ := own_blk HREF.out.2.f (g := g) rfl
              rw [e, h4] at h3
              cases h3
            have HRF := Lib.hid ((HREF.out.below HB8.out).file2 (g := g) (c := c4) (q := q) (by show Value.slice _ NF c4 = .slice _ s2.files.length c4; rw [HFL.out]) HQ2.out D D.size)
            have HRW := Lib.hid (own_kw (own_kw HRL.out (Kw.ofBelow (S := fun x => x = g) HB8.out) hgdg) (((Kw.refl (fun x => x = g) W8).setCell (p := ⟨g, q * 2, none⟩) rfl (.string D)).setCell (p := ⟨g, q * 2 + 1, none⟩) rfl (.int .i64 (D.size : Nat))) hgdg)
            have HKK := Lib.hid (((HKW.out.trans (Kw.ofBelow HB8.out)).setNew (p := ⟨g, q * 2, none⟩) HGB.out (.string D)).setNew (p := ⟨g, q * 2 + 1, none⟩) HGB.out (.int .i64 (D.size : Nat)))
            have HSS := HSN.out
            rw [HCN.out] at HSS
            exact ⟨⟨j + 1, by omega, by push_cast; rfl, k, by push_cast; rfl, by omega, _, HSS, HOF.out.setF HOK.out HQ2.out, (by show (s2.files.set q _).length = NF; rw [List.length_set]; exact HFL.out), HRF.out, HRW.out, HKK.out⟩, by simp [intOf]; omega⟩
        · have hj1 : ¬ (j : Int) < (nl : Int) := by omega
          have HRS : Hid (res = { s with files := s2.files, dir := l, kept := l, waits := [], fuse := 0, down := false }) := Lib.hid (by
            have h1 := HCUT.out
            rw [List.take_of_length_le (by rw [HNL.out]; omega)] at h1
            rw [HRES.out, h1])
          have hbne : ∀ q, (Value.slice Al nl cl).ownBlock = some q → ¬ q = b := fun q hq e => by
            obtain ⟨_, cur, h3⟩ := own_blk HRL.out hq
            rw [e, HREF.out.1] at h3
            cases h3
          have hk9 := (Kw.refl (fun x => x = b) wr).setCell (p := ⟨b, 5, none⟩) rfl (.slice Al nl cl)
          have HRL9 := Lib.hid (own_kw HRL.out hk9 hbne)
          have HK9 := Lib.hid (HKW.out.trans hk9)
          have HR9 : Hid (RefAt (wr.setCell ⟨b, 5, none⟩ (.slice Al nl cl)) b ⟨.slice A4 NF c4, .slice Al nl cl, .slice Ak NK ck, .slice Aw NW cw⟩ { s with files := s2.files, dir := l }) := Lib.hid (HREF.out.setD (l := l) (B := 0) (u := .slice Al nl cl) (by rw [show l.length = nl from HNL.out]; exact HRL.out))
          obtain ⟨_, _, a2, a3, _, a5, a6, a7⟩ := HREF.out.c
          dsimp only at a2 a3 a5 a6 a7
          have bl := HREF.out.lt
          have bf5 := HREF.out.fz 5
          have HW9 : Hid ((wr.setCell ⟨b, 5, none⟩ (.slice Al nl cl)).heap.size = wr.heap.size) := Lib.hid (by simp [World.setCell])
          have k0 := bl_alloc (Below.refl (wr.setCell ⟨b, 5, none⟩ (.slice Al nl cl)).heap.size (wr.setCell ⟨b, 5, none⟩ (.slice Al nl cl))) (Obj.cells #[] 104)
          have HE0 : Hid (((wr.setCell ⟨b, 5, none⟩ (.slice Al nl cl)).alloc (Obj.cells #[] 104)).ownsRow wr.heap.size 104 2 (.slice (some ⟨wr.heap.size, 0, none⟩) 0 0) 0 []) := Lib.hid (em_own (by rw [← HW9.out]; exact new_heap _ _) (Nat.le_refl _))
          have HK0 := Lib.hid k0
          have HRA := Lib.hid (own_kw HRL9.out (Kw.ofBelow (S := fun _ => False) k0) (fun _ _ e => e))
          have HBB : Hid (0 + nl ≤ 4000000) := Lib.hid (by omega)
          have HSZ0 : Hid (wr.heap.size ≤ ((wr.setCell ⟨b, 5, none⟩ (.slice Al nl cl)).alloc (Obj.cells #[] 104)).heap.size) := Lib.hid (by rw [← HW9.out]; exact k0.size)
          have HST : Hid (∀ z, Below wr.heap.size (wr.setCell ⟨b, 5, none⟩ (.slice Al nl cl)) z → z.cell? ⟨b, 2, none⟩ = some (.int .i64 s.fuse) ∧ z.cell? ⟨b, 3, none⟩ = some (.bool s.down) ∧ z.cell? ⟨b, 6, none⟩ = some (.slice Ak NK ck) ∧ z.cell? ⟨b, 7, none⟩ = some (.slice Aw NW cw) ∧ z.frozen? ⟨b, 2, none⟩ = false ∧ z.frozen? ⟨b, 3, none⟩ = false ∧ z.frozen? ⟨b, 6, none⟩ = false ∧ z.frozen? ⟨b, 7, none⟩ = false ∧ b < z.heap.size) := Lib.hid (fun z k => by
            have hz := HR9.out.below (w' := z) (by rw [HW9.out]; exact k)
            obtain ⟨_, _, h2, h3, _, _, h6, h7⟩ := hz.c
            exact ⟨h2, h3, h6, h7, hz.fz 2, hz.fz 3, hz.fz 6, hz.fz 7, hz.lt⟩)
          have HBG : Hid (∀ z, ((wr.setCell ⟨b, 5, none⟩ (.slice Al nl cl)).alloc (Obj.cells #[] 104)).grownBy z (Value.slice (some ⟨wr.heap.size, 0, none⟩) 0 0).ownBlock → Below wr.heap.size (wr.setCell ⟨b, 5, none⟩ (.slice Al nl cl)) z) := Lib.hid (fun z hg => bl_grow (by have h := HK0.out; rw [HW9.out] at h; exact h) HSZ0.out HE0.out hg)
          clear k0 hk9 hbne HREF HRL HCUT HOF HFL HKW a2 a3 a6 a7
          go_wp2_with (at_builtin; refine wpList_append_row _ rfl (.tmp 109) (.tmp 110) 49 104 2 24 _ und49 i104 rfl (by decide) (by decide) rfl wr.heap.size 0 0 (.slice (some ⟨wr.heap.size, 0, none⟩) 0 0) [] rfl HE0.out (.slice Al nl cl) nl (ecells l) rfl HRA.out (ecells_one _) HBB.out HSZ0.out ?_; intro v9 w9 hown9 hgr9; have hb9 := HBG.out w9 hgr9; obtain ⟨A9, c9, rfl, _, _⟩ := own_slice hown9; obtain ⟨s2c, s3c, s6c, s7c, s2f, s3f, s6f, s7f, sbl⟩ := HST.out w9 hb9)
          have HR10 : Hid (RefAt ((((w9.setCell ⟨b, 6, none⟩ (.slice A9 nl c9)).setCell ⟨b, 7, none⟩ (.slice none 0 0)).setCell ⟨b, 2, none⟩ (.int .i64 0)).setCell ⟨b, 3, none⟩ (.bool false)) b ⟨.slice A4 NF c4, .slice Al nl cl, .slice A9 nl c9, .slice none 0 0⟩ { s with files := s2.files, dir := l, kept := l, waits := [], fuse := 0, down := false }) := Lib.hid (by
            rw [Nat.zero_add, List.nil_append] at hown9
            have h1 := HR9.out.below (w' := w9) (by rw [HW9.out]; exact hb9)
            have h2 := h1.setK (l := l) (u := .slice A9 nl c9) (by rw [show l.length = nl from HNL.out]; exact hown9)
            have h3 := h2.setW (B := 0) (u := .slice none 0 0) (l := []) ⟨rfl, .inl ⟨rfl, rfl⟩⟩
            have h4 := h3.set1 (s' := { s with files := s2.files, dir := l, kept := l, waits := [], fuse := 0 }) 2 (.int .i64 0) rfl rfl rfl rfl rfl
            exact h4.set1 (s' := { s with files := s2.files, dir := l, kept := l, waits := [], fuse := 0, down := false }) 3 (.bool false) rfl rfl rfl rfl rfl)
          have HK10 := Lib.hid (((((HK9.out.trans (Kw.ofBelow (S := fun x => x = b) (w' := w9) (by rw [HW9.out]; exact hb9))).setCell (p := ⟨b, 6, none⟩) rfl (.slice A9 nl c9)).setCell (p := ⟨b, 7, none⟩) rfl (.slice none 0 0)).setCell (p := ⟨b, 2, none⟩) rfl (.int .i64 0)).setCell (p := ⟨b, 3, none⟩) rfl (.bool false))
          clear hown9 hgr9 hb9 HE0 HK0 HRA HBB HSZ0 HST
          go_wp2_with (fail)
          go_end0
          refine EndR.mk rfl ⟨⟨.slice A4 NF c4, .slice Al nl cl, .slice A9 nl c9, .slice none 0 0⟩, ?_⟩ HK10.out
          rw [HRS.out]
          exact HR10.out
end Go.Proofs.Ytjgiohlkpenipaa
