/- Contract of the reference's change. Conditions: as each theorem states them. -/
import Derived.Test.YtjgiohlkpenipaaJ6
import Derived.Test.YtjgiohlkpenipaaJA
namespace Go.Proofs.Ytjgiohlkpenipaa
open Go.RowKit Go.Maps
set_option linter.unusedVariables false
set_option linter.unusedSimpArgs false

theorem RefAt.setF {W : World} {b B : Nat} {v : Rv} {s : DS} {u : Value} {l : List Fl} (h : RefAt W b v s) (ho : W.ownsRow B 97 2 u l.length (fcells l)) : RefAt (W.setCell ⟨b, 4, none⟩ u) b { v with f := u } { s with files := l } := by
  have k : Kw (fun x => x = b) W (W.setCell ⟨b, 4, none⟩ u) := (Kw.refl (fun x => x = b) W).setCell (p := ⟨b, 4, none⟩) rfl u
  have hr := h.2.kw k (fun x e => ⟨rcells s v, (0, 0), by rw [e]; exact h.1⟩)
  have hn : W.setCell ⟨b, 4, none⟩ u = W.setCell ⟨b, 4, none⟩ u := rfl
  have h2 : (W.setCell ⟨b, 4, none⟩ u).ownsRow 0 97 2 u l.length (fcells l) := by
    refine row_base (own_kw ho k (fun g hg e => ?_)) (Nat.zero_le _)
    obtain ⟨_, cur, h3⟩ := own_blk ho hg
    rw [e, h.1] at h3
    cases h3
  exact ⟨set_heap (i := 4) h.1, h2, hr.d, hr.k, hr.w⟩
theorem RefAt.setD {W : World} {b B : Nat} {v : Rv} {s : DS} {u : Value} {l : Dir} (h : RefAt W b v s) (ho : W.ownsRow B 104 2 u l.length (ecells l)) : RefAt (W.setCell ⟨b, 5, none⟩ u) b { v with d := u } { s with dir := l } := by
  have k : Kw (fun x => x = b) W (W.setCell ⟨b, 5, none⟩ u) := (Kw.refl (fun x => x = b) W).setCell (p := ⟨b, 5, none⟩) rfl u
  have hr := h.2.kw k (fun x e => ⟨rcells s v, (0, 0), by rw [e]; exact h.1⟩)
  have hn : W.setCell ⟨b, 5, none⟩ u = W.setCell ⟨b, 5, none⟩ u := rfl
  have h2 : (W.setCell ⟨b, 5, none⟩ u).ownsRow 0 104 2 u l.length (ecells l) := by
    refine row_base (own_kw ho k (fun g hg e => ?_)) (Nat.zero_le _)
    obtain ⟨_, cur, h3⟩ := own_blk ho hg
    rw [e, h.1] at h3
    cases h3
  exact ⟨set_heap (i := 5) h.1, hr.f, h2, hr.k, hr.w⟩
theorem RefAt.setK {W : World} {b B : Nat} {v : Rv} {s : DS} {u : Value} {l : Dir} (h : RefAt W b v s) (ho : W.ownsRow B 104 2 u l.length (ecells l)) : RefAt (W.setCell ⟨b, 6, none⟩ u) b { v with k := u } { s with kept := l } := by
  have k : Kw (fun x => x = b) W (W.setCell ⟨b, 6, none⟩ u) := (Kw.refl (fun x => x = b) W).setCell (p := ⟨b, 6, none⟩) rfl u
  have hr := h.2.kw k (fun x e => ⟨rcells s v, (0, 0), by rw [e]; exact h.1⟩)
  have hn : W.setCell ⟨b, 6, none⟩ u = W.setCell ⟨b, 6, none⟩ u := rfl
  have h2 : (W.setCell ⟨b, 6, none⟩ u).ownsRow 0 104 2 u l.length (ecells l) := by
    refine row_base (own_kw ho k (fun g hg e => ?_)) (Nat.zero_le _)
    obtain ⟨_, cur, h3⟩ := own_blk ho hg
    rw [e, h.1] at h3
    cases h3
  exact ⟨set_heap (i := 6) h.1, hr.f, hr.d, h2, hr.w⟩
theorem RefAt.setW {W : World} {b B : Nat} {v : Rv} {s : DS} {u : Value} {l : List Ch} (h : RefAt W b v s) (ho : W.ownsRow B 100 4 u l.length (ccells l)) : RefAt (W.setCell ⟨b, 7, none⟩ u) b { v with w := u } { s with waits := l } := by
  have k : Kw (fun x => x = b) W (W.setCell ⟨b, 7, none⟩ u) := (Kw.refl (fun x => x = b) W).setCell (p := ⟨b, 7, none⟩) rfl u
  have hr := h.2.kw k (fun x e => ⟨rcells s v, (0, 0), by rw [e]; exact h.1⟩)
  have hn : W.setCell ⟨b, 7, none⟩ u = W.setCell ⟨b, 7, none⟩ u := rfl
  have h2 : (W.setCell ⟨b, 7, none⟩ u).ownsRow 0 100 4 u l.length (ccells l) := by
    refine row_base (own_kw ho k (fun g hg e => ?_)) (Nat.zero_le _)
    obtain ⟨_, cur, h3⟩ := own_blk ho hg
    rw [e, h.1] at h3
    cases h3
  exact ⟨set_heap (i := 7) h.1, hr.f, hr.d, hr.k, h2⟩
theorem em_own {z : World} {B k e sz : Nat} (h : z.heap[k]? = some (Obj.cells #[] e)) (hB : B ≤ k) : z.ownsRow B e sz (.slice (some ⟨k, 0, none⟩) 0 0) 0 [] :=
  ⟨by simp, .inr ⟨k, 0, #[], rfl, hB, h, Nat.le_refl _, Nat.zero_le _, by simp, by simp⟩⟩
theorem bl_grow {B n e sz : Nat} {W z z' : World} {u : Value} {xs : List Value} (k : Below B W z) (hB : B ≤ z.heap.size) (h : z.ownsRow B e sz u n xs) (g : z.grownBy z' u.ownBlock) : Below B W z' :=
  k.grown g hB (fun q hq => (own_blk h hq).1)
/-- A block that is not the row's stays when the row grows. -/
theorem blk_grow {n e sz B k : Nat} {z z' : World} {o : Obj} (h : z.heap[k]? = some o) {j m c : Nat} (g : z.grownBy z' (Value.slice (some ⟨j, 0, none⟩) m c).ownBlock) (hne : k ≠ j) : z'.heap[k]? = some o :=
  (g.block k (Array.getElem?_eq_some_iff.1 h).1 (fun e => hne (by simpa [Value.ownBlock] using e))).trans h
theorem old_heap {w : World} {k : Nat} {o p : Obj} (h : w.heap[k]? = some o) : (w.alloc p).heap[k]? = some o :=
  ((Below.refl w.heap.size w).alloc (Nat.le_refl _) p).block k (Array.getElem?_eq_some_iff.1 h).1 |>.trans h
set_option maxRecDepth 100000 in
set_option maxHeartbeats 16000000 in
theorem rchange_any (b : Nat) (v : Rv) (s : DS) (c : Ch) (w : World) (h : RefAt w b v s) (hl : s.dir.length ≤ 1000000) (hw : s.waits.length ≤ 1000000) (hk : c.frm = ByteArray.empty → c.to ≠ ByteArray.empty) :
    Calls Try.prog 75 #[ptrV b, rchV c] w fun e w' => e = .returned (.tuple #[]) ∧ (∃ v', RefAt w' b v' (s.chg c)) ∧ Kw (fun x => x = b) w w' := by
  have hl0 := h.lt
  obtain ⟨kd, hkd⟩ : ∃ kd, kindC c = kd := ⟨_, rfl⟩
  have hb0 := bl_alloc (Below.refl w.heap.size w) (Obj.cells #[.int .i64 kd, .string c.frm, .string c.to, .int .i64 c.fi] 100)
  have h1 := h.below hb0.drew
  have hbox : ∀ W, Below (w.alloc (Obj.cells #[.int .i64 kd, .string c.frm, .string c.to, .int .i64 c.fi] 100)).drew.heap.size (w.alloc (Obj.cells #[.int .i64 kd, .string c.frm, .string c.to, .int .i64 c.fi] 100)).drew W → W.heap[w.heap.size]? = some (Obj.cells #[.int .i64 kd, .string c.frm, .string c.to, .int .i64 c.fi] 100) := fun W k =>
    (k.block w.heap.size (by simp [World.drew])).trans (new_heap w _)
  have HBX := Lib.hid hbox
  have HDO := Lib.hid (done_any v.d s.dir c (w.alloc (Obj.cells #[.int .i64 kd, .string c.frm, .string c.to, .int .i64 c.fi] 100)).drew h1.2.d (by omega) hk)
  have H1 := Lib.hid h1
  have HB0 := Lib.hid hb0.drew
  obtain ⟨Ad, cd, hvd, _, _⟩ := own_slice h.2.d
  obtain ⟨Aw, cw, hvw, _, _⟩ := own_slice h.2.w
  have HVD := Lib.hid hvd
  have HVW := Lib.hid hvw
  have HKD := Lib.hid hkd
  rw [hvd] at HDO
  unfold rchV at HDO ⊢
  rw [hkd] at HDO ⊢
  have HKP : Hid (∀ W, Below (w.alloc (Obj.cells #[.int .i64 kd, .string c.frm, .string c.to, .int .i64 c.fi] 100)).drew.heap.size (w.alloc (Obj.cells #[.int .i64 kd, .string c.frm, .string c.to, .int .i64 c.fi] 100)).drew W → W.cell? ⟨b, 5, none⟩ = some (.slice Ad s.dir.length cd) ∧ W.cell? ⟨w.heap.size, 0, none⟩ = some (.int .i64 kd) ∧ W.cell? ⟨w.heap.size, 1, none⟩ = some (.string c.frm) ∧ W.cell? ⟨w.heap.size, 2, none⟩ = some (.string c.to) ∧ W.cell? ⟨w.heap.size, 3, none⟩ = some (.int .i64 c.fi)) := Lib.hid (fun W k => by
    have e := HBX.out W k
    have e2 := (H1.out.below k).c.2.2.2.2.2.1
    rw [HVD.out] at e2
    exact ⟨e2, cell_of e 0, cell_of e 1, cell_of e 2, cell_of e 3⟩)
  have hne : b ≠ w.heap.size := by omega
  clear h hb0 h1 hbox hvd hvw hkd
  obtain ⟨frm, to, fi⟩ := c
  dsimp only at *
  unfold ptrV
  go_enter Try.func75, Try.ntmps75
  go_wp2_with (fail)
  generalize (w.alloc (Obj.cells #[.int .i64 kd, .string frm, .string to, .int .i64 fi] 100)) = W at *
  obtain ⟨x0, x1, x2, x3, x4⟩ := HKP.out W.drew (Below.refl _ _)
  go_region_with (first
    | (go_at_call 77; refine HDO.out.mono ?_; rintro r w2 ⟨v2, rfl, h2, hb2⟩; obtain ⟨A2, c2, rfl, hc2, hg2⟩ := own_slice h2; obtain ⟨y0, y1, y2, y3, y4⟩ := HKP.out w2 hb2; have yl := (H1.out.below hb2).lt; have yf := (H1.out.below hb2).fz 5))
  all_goals (
    have HO2 := Lib.hid h2
    have HB2 := Lib.hid hb2
    have HD3 : Hid (RefAt (w2.setCell ⟨b, 5, none⟩ (.slice A2 (alt s.dir ⟨frm, to, fi⟩).length c2)).drew b { v with d := .slice A2 (alt s.dir ⟨frm, to, fi⟩).length c2 } { s with dir := alt s.dir ⟨frm, to, fi⟩ }) := Lib.hid (((H1.out.below HB2.out).setD HO2.out).below (Below.refl _ _).drew)
    have HBX3 : Hid ((w2.setCell ⟨b, 5, none⟩ (.slice A2 (alt s.dir ⟨frm, to, fi⟩).length c2)).drew.heap[w.heap.size]? = some (Obj.cells #[.int .i64 kd, .string frm, .string to, .int .i64 fi] 100)) := Lib.hid
      ((((Kw.refl (fun x => x = b) w2).setCell (p := ⟨b, 5, none⟩) rfl _).drew.block w.heap.size (Array.getElem?_eq_some_iff.1 (HBX.out w2 HB2.out)).1 (fun e => hne e.symm)).trans (HBX.out w2 HB2.out))
    have HK3 : Hid (Kw (fun x => x = b) w (w2.setCell ⟨b, 5, none⟩ (.slice A2 (alt s.dir ⟨frm, to, fi⟩).length c2)).drew) := Lib.hid
      (((Kw.ofBelow (S := fun x => x = b) (HB0.out.trans (HB2.out.mono HB0.out.size))).setCell (p := ⟨b, 5, none⟩) rfl _).drew)
    clear x0 x1 x2 x3 x4 h2 hb2 y0 y1 y2 y3 y4 yl yf
    go_wp2_with (fail)
    generalize (w2.setCell ⟨b, 5, none⟩ (.slice A2 (alt s.dir ⟨frm, to, fi⟩).length c2)) = W3 at *
    clear HKP HDO HO2 HBX H1 HB0 HB2
    have HKP3 : Hid (∀ z, Below W3.drew.heap.size W3.drew z → z.cell? ⟨b, 7, none⟩ = some (.slice Aw s.waits.length cw) ∧ z.cell? ⟨w.heap.size, 0, none⟩ = some (.int .i64 kd) ∧ z.cell? ⟨w.heap.size, 1, none⟩ = some (.string frm) ∧ z.cell? ⟨w.heap.size, 2, none⟩ = some (.string to) ∧ z.cell? ⟨w.heap.size, 3, none⟩ = some (.int .i64 fi)) := Lib.hid (fun z k => by
      have e := (k.block w.heap.size (Array.getElem?_eq_some_iff.1 HBX3.out).1).trans HBX3.out
      have e2 := (HD3.out.below k).c.2.2.2.2.2.2.2
      rw [show (⟨v.f, .slice A2 (alt s.dir ⟨frm, to, fi⟩).length c2, v.k, v.w⟩ : Rv).w = v.w from rfl, HVW.out] at e2
      exact ⟨e2, cell_of e 0, cell_of e 1, cell_of e 2, cell_of e 3⟩)
    have HW : Hid (∀ z, Below W3.drew.heap.size W3.drew z → z.ownsRow 0 100 4 (.slice Aw s.waits.length cw) s.waits.length (ccells s.waits)) := Lib.hid (fun z k => by
      have e2 := (HD3.out.below k).2.w
      rw [show (⟨v.f, .slice A2 (alt s.dir ⟨frm, to, fi⟩).length c2, v.k, v.w⟩ : Rv).w = v.w from rfl, HVW.out] at e2
      exact e2)
    have HFZ : Hid (∀ z, Below W3.drew.heap.size W3.drew z → z.frozen? ⟨b, 7, none⟩ = false ∧ b < z.heap.size) := Lib.hid (fun z k => ⟨(HD3.out.below k).fz 7, (HD3.out.below k).lt⟩)
    have HEND : Hid (∀ (z : World) (A4 : Option Addr) (c4 : Nat), Below W3.drew.heap.size W3.drew z → z.ownsRow W3.heap.size 100 4 (.slice A4 (0 + s.waits.length + 1) c4) (0 + s.waits.length + 1) ([] ++ ccells s.waits ++ [.int .i64 kd, .string frm, .string to, .int .i64 fi]) → (∃ v', RefAt (z.setCell ⟨b, 7, none⟩ (.slice A4 (0 + s.waits.length + 1) c4)) b v' (s.chg ⟨frm, to, fi⟩)) ∧ Kw (fun x => x = b) w (z.setCell ⟨b, 7, none⟩ (.slice A4 (0 + s.waits.length + 1) c4))) := Lib.hid (fun z A4 c4 k ho => by
      have hcc : [] ++ ccells s.waits ++ [.int .i64 kd, .string frm, .string to, .int .i64 fi] = ccells (s.waits ++ [⟨frm, to, fi⟩]) := by
        rw [ccells_app, List.nil_append]
        unfold ccells
        simp only [List.flatMap_cons, List.flatMap_nil, List.append_nil]
        rw [HKD.out]
      have hll : 0 + s.waits.length + 1 = (s.waits ++ [(⟨frm, to, fi⟩ : Ch)]).length := by simp
      rw [hcc, hll] at ho
      rw [hll]
      exact ⟨⟨_, (HD3.out.below k).setW ho⟩, (HK3.out.trans (Kw.ofBelow k)).setCell (p := ⟨b, 7, none⟩) rfl _⟩)
    have hbl : b < W3.heap.size := HD3.out.lt
    have hwl : w.heap.size < W3.heap.size := (Array.getElem?_eq_some_iff.1 HBX3.out).1
    have HNW : Hid (0 + s.waits.length ≤ 4000000) := Lib.hid (by omega)
    have HNW2 : Hid (0 + s.waits.length + 1 ≤ 4000000) := Lib.hid (by omega)
    have HONE : Hid (∀ u ∈ ([.int .i64 kd, .string frm, .string to, .int .i64 fi] : List Value), u.oneCell' = true) := Lib.hid (by simp [Value.oneCell'])
    obtain ⟨E, hE⟩ : ∃ E, Obj.cells #[] 100 = E := ⟨_, rfl⟩
    obtain ⟨X, hX⟩ : ∃ X, Obj.cells #[.int .i64 kd, .string frm, .string to, .int .i64 fi] 100 = X := ⟨_, rfl⟩
    have kA : Below W3.drew.heap.size W3.drew (W3.alloc E).drew := bl_alloc (Below.refl _ _) _
    have kX : Below W3.drew.heap.size W3.drew (W3.alloc X).drew := bl_alloc (Below.refl _ _) _
    have kB : Below W3.drew.heap.size W3.drew ((W3.alloc E).alloc X).drew := bl_alloc (bl_alloc (Below.refl _ _) E) X
    have kC : Below W3.drew.heap.size W3.drew ((W3.alloc X).alloc E).drew := bl_alloc (bl_alloc (Below.refl _ _) X) E
    have HOA : Hid ((W3.alloc E).drew.ownsRow W3.heap.size 100 4 (.slice (some ⟨W3.heap.size, 0, none⟩) 0 0) 0 []) := Lib.hid (em_own (by rw [hE]; exact new_heap _ _) (Nat.le_refl _))
    have HOB : Hid (((W3.alloc E).alloc X).drew.ownsRow W3.heap.size 100 4 (.slice (some ⟨W3.heap.size, 0, none⟩) 0 0) 0 []) := Lib.hid (em_own (by rw [hE]; exact old_heap (new_heap _ _)) (Nat.le_refl _))
    have HOC : Hid (((W3.alloc X).alloc E).drew.ownsRow W3.heap.size 100 4 (.slice (some ⟨W3.heap.size + 1, 0, none⟩) 0 0) 0 []) := Lib.hid (em_own (by rw [hE, show W3.heap.size + 1 = (W3.alloc X).heap.size from by simp]; exact new_heap _ _) (by omega))
    have HXB : Hid (((W3.alloc E).alloc X).drew.heap[W3.heap.size + 1]? = some X) := Lib.hid (by rw [show W3.heap.size + 1 = (W3.alloc E).heap.size from by simp]; exact new_heap _ _)
    have HXC : Hid (((W3.alloc X).alloc E).drew.heap[W3.heap.size]? = some X) := Lib.hid (old_heap (new_heap _ _))
    have HZA : Hid (W3.heap.size ≤ (W3.alloc E).drew.heap.size) := Lib.hid kA.size
    have HZB : Hid (W3.heap.size ≤ ((W3.alloc E).alloc X).drew.heap.size) := Lib.hid kB.size
    have HZC : Hid (W3.heap.size ≤ ((W3.alloc X).alloc E).drew.heap.size) := Lib.hid kC.size
    have HX1 : Hid (∀ (z : World) (k B : Nat), z.heap[k]? = some X → B ≤ k → z.ownsRow B 100 4 (.slice (some ⟨k, 0, none⟩) 1 1) 1 [.int .i64 kd, .string frm, .string to, .int .i64 fi]) := Lib.hid (fun z k B h1 h2 => own_one (by rw [h1, ← hX]) rfl h2)
    obtain ⟨x0, x1, x2, x3, x4⟩ := HKP3.out W3.drew (Below.refl _ _)
    obtain ⟨p0, p1, p2, p3, p4⟩ := HKP3.out _ kA
    obtain ⟨r0, r1, r2, r3, r4⟩ := HKP3.out _ kX
    obtain ⟨s0, s1, s2, s3, s4⟩ := HKP3.out _ kB
    obtain ⟨t0, t1, t2, t3, t4⟩ := HKP3.out _ kC
    have HkA := Lib.hid kA
    have HkB := Lib.hid kB
    have HkC := Lib.hid kC
    have HA2 : Hid (∀ (z : World), Below W3.drew.heap.size W3.drew z → ∀ {u n xs}, z.ownsRow W3.heap.size 100 4 u n xs → (z.alloc X).ownsRow W3.heap.size 100 4 u n xs ∧ Below W3.drew.heap.size W3.drew (z.alloc X) ∧ W3.heap.size ≤ (z.alloc X).heap.size ∧ (z.alloc X).ownsRow 0 100 4 (.slice (some ⟨z.heap.size, 0, none⟩) 1 1) 1 [.int .i64 kd, .string frm, .string to, .int .i64 fi]) := Lib.hid (fun z k u n xs h => by
      have k2 := bl_alloc k X
      exact ⟨own_kw h (Kw.ofBelow (S := fun _ => False) (bl_alloc (Below.refl _ _) _)) (fun _ _ e => e), k2, k2.size, HX1.out _ _ _ (new_heap z X) (Nat.zero_le _)⟩)
    subst hE
    subst hX
    clear kA kX kB kC
    go_region_law
      ((first
        | (refine step_append_row _ rfl (.tmp 19) (.tmp 21) 50 100 4 48 _ und50 i100 rfl (by decide) (by decide) rfl W3.heap.size 0 (0 + s.waits.length) v1 _ rfl hx1.1 (.slice (some ⟨w1.heap.size, 0, none⟩) 1 1) 1 [.int .i64 kd, .string frm, .string to, .int .i64 fi] rfl hx1.2.2.2 HONE.out HNW2.out hx1.2.2.1 ?_; intro v2 w4 hown2 hgr2; have hbB := bl_grow hx1.2.1 hx1.2.2.1 hx1.1 hgr2; obtain ⟨A4, c4, rfl, _, _⟩ := own_slice hown2; obtain ⟨q5, q6, q7, q8, q9⟩ := HKP3.out w4 hbB; obtain ⟨sf, sl⟩ := HFZ.out w4 hbB)
        | (refine step_append_row _ rfl (.tmp 19) (.tmp 21) 50 100 4 48 _ und50 i100 rfl (by decide) (by decide) rfl W3.heap.size 0 (0 + s.waits.length) v1 _ rfl hown1 (.slice (some ⟨W3.heap.size + 1, 0, none⟩) 1 1) 1 [.int .i64 kd, .string frm, .string to, .int .i64 fi] rfl hxB HONE.out HNW2.out hbA.size ?_; intro v2 w4 hown2 hgr2; have hbB := bl_grow hbA hbA.size hown1 hgr2; obtain ⟨A4, c4, rfl, _, _⟩ := own_slice hown2; obtain ⟨q5, q6, q7, q8, q9⟩ := HKP3.out w4 hbB; obtain ⟨sf, sl⟩ := HFZ.out w4 hbB)
        | (refine step_append_row _ rfl (.tmp 19) (.tmp 21) 50 100 4 48 _ und50 i100 rfl (by decide) (by decide) rfl W3.heap.size 0 (0 + s.waits.length) v1 _ rfl hown1 (.slice (some ⟨W3.heap.size, 0, none⟩) 1 1) 1 [.int .i64 kd, .string frm, .string to, .int .i64 fi] rfl hxC HONE.out HNW2.out hbA.size ?_; intro v2 w4 hown2 hgr2; have hbB := bl_grow hbA hbA.size hown1 hgr2; obtain ⟨A4, c4, rfl, _, _⟩ := own_slice hown2; obtain ⟨q5, q6, q7, q8, q9⟩ := HKP3.out w4 hbB; obtain ⟨sf, sl⟩ := HFZ.out w4 hbB)
        | (refine step_append_row _ rfl (.tmp 14) (.tmp 18) 50 100 4 48 _ und50 i100 rfl (by decide) (by decide) rfl W3.heap.size 0 0 (.slice (some ⟨W3.heap.size, 0, none⟩) 0 0) [] rfl HOA.out (.slice Aw s.waits.length cw) s.waits.length (ccells s.waits) rfl (HW.out _ HkA.out) (ccells_one _) HNW.out HZA.out ?_; intro v1 w1 hown1 hgr1; have hbA := bl_grow HkA.out HZA.out HOA.out hgr1; have hx1 := HA2.out w1 hbA hown1; obtain ⟨q0, q1, q2, q3, q4⟩ := HKP3.out w1 hbA)
        | (refine step_append_row _ rfl (.tmp 14) (.tmp 18) 50 100 4 48 _ und50 i100 rfl (by decide) (by decide) rfl W3.heap.size 0 0 (.slice (some ⟨W3.heap.size, 0, none⟩) 0 0) [] rfl HOB.out (.slice Aw s.waits.length cw) s.waits.length (ccells s.waits) rfl (HW.out _ HkB.out) (ccells_one _) HNW.out HZB.out ?_; intro v1 w1 hown1 hgr1; have hbA := bl_grow HkB.out HZB.out HOB.out hgr1; have hxB := HX1.out w1 (W3.heap.size + 1) 0 (blk_grow (n := 0) (e := 0) (sz := 0) (B := 0) HXB.out hgr1 (by omega)) (Nat.zero_le _); obtain ⟨q0, q1, q2, q3, q4⟩ := HKP3.out w1 hbA)
        | (refine step_append_row _ rfl (.tmp 14) (.tmp 18) 50 100 4 48 _ und50 i100 rfl (by decide) (by decide) rfl W3.heap.size 0 0 (.slice (some ⟨W3.heap.size + 1, 0, none⟩) 0 0) [] rfl HOC.out (.slice Aw s.waits.length cw) s.waits.length (ccells s.waits) rfl (HW.out _ HkC.out) (ccells_one _) HNW.out HZC.out ?_; intro v1 w1 hown1 hgr1; have hbA := bl_grow HkC.out HZC.out HOC.out hgr1; have hxC := HX1.out w1 W3.heap.size 0 (blk_grow (n := 0) (e := 0) (sz := 0) (B := 0) HXC.out hgr1 (by omega)) (Nat.zero_le _); obtain ⟨q0, q1, q2, q3, q4⟩ := HKP3.out w1 hbA)))
    all_goals (
      have HF := Lib.hid (HEND.out w4 A4 c4 hbB hown2)
      rw [Nat.zero_add] at HF
      clear hown2 hbB
      go_wp2_with (fail)
      go_end0
      exact ⟨rfl, HF.out.1, HF.out.2⟩))
end Go.Proofs.Ytjgiohlkpenipaa
