/- Contract of Copy. Conditions: as each theorem states them. -/
import Derived.Test.YtjgiohlkpenipaaG5
namespace Go.Proofs.Ytjgiohlkpenipaa
open Go.RowKit Go.Maps
set_option linter.unusedVariables false
set_option linter.unusedSimpArgs false

theorem eq57 (w : World) (b : Nat) : (binOp .eql 57 (.map (some b)) (.map none)).run Try.prog w = .ok (.bool false) w := run_eql_map_nil (P := Try.prog) w 57 9 63 (some b) u57
/-- Where Copy begins to make. -/
structure Cw (w : World) (L : Lay) (s : DS) (W : World) : Prop where
  d : DAt w L s
  b : Below w.heap.size w W
  sz : W.heap.size = w.heap.size + 4
  o : W.heap[w.heap.size]? = some (Obj.cells (dcells L s) 60)
  cp : Cp w L s W (w.heap.size + 1) []
  bx : Box W (w.heap.size + 1 + 1) (.map (some (w.heap.size + 1))) 81
  bf : Box W (w.heap.size + 1 + 1 + 1) (twinF (w.heap.size + 1 + 1)) 82
theorem Cw.start {w : World} {L : Lay} {s : DS} (h : DAt w L s) : Cw w L s ((((w.alloc (Obj.cells (dcells L s) 60)).alloc (Obj.map #[] 0)).alloc (Obj.cells #[.map (some (w.heap.size + 1))] 81)).alloc (Obj.cells #[twinF (w.heap.size + 1 + 1)] 82)) := by
  have b0 : Below w.heap.size w (w.alloc (Obj.cells (dcells L s) 60)) := (Below.refl _ _).alloc (Nat.le_refl _) _
  obtain ⟨w1, e1⟩ : ∃ w1, w.alloc (Obj.cells (dcells L s) 60) = w1 := ⟨_, rfl⟩
  have o1 : w1.heap[w.heap.size]? = some (Obj.cells (dcells L s) 60) := by rw [← e1]; exact new_heap w _
  have s1 : w1.heap.size = w.heap.size + 1 := by rw [← e1]; simp
  rw [e1] at b0 ⊢
  clear e1
  have b1 : Below w1.heap.size w1 (w1.alloc (Obj.map #[] 0)) := (Below.refl _ _).alloc (Nat.le_refl _) _
  have t1 := TwAt.new w1
  obtain ⟨w2, e2⟩ : ∃ w2, w1.alloc (Obj.map #[] 0) = w2 := ⟨_, rfl⟩
  have s2 : w2.heap.size = w.heap.size + 1 + 1 := by rw [← e2]; simp [s1]
  rw [e2] at b1 t1 ⊢
  clear e2
  have b2 : Below w2.heap.size w2 (w2.alloc (Obj.cells #[.map (some (w.heap.size + 1))] 81)) := (Below.refl _ _).alloc (Nat.le_refl _) _
  have t2 := Box.new w2 (.map (some (w.heap.size + 1))) 81
  obtain ⟨w3, e3⟩ : ∃ w3, w2.alloc (Obj.cells #[.map (some (w.heap.size + 1))] 81) = w3 := ⟨_, rfl⟩
  have s3 : w3.heap.size = w.heap.size + 1 + 1 + 1 := by rw [← e3]; simp [s2]
  rw [e3] at b2 t2 ⊢
  clear e3
  have b3 : Below w3.heap.size w3 (w3.alloc (Obj.cells #[twinF (w.heap.size + 1 + 1)] 82)) := (Below.refl _ _).alloc (Nat.le_refl _) _
  have t3 := Box.new w3 (twinF (w.heap.size + 1 + 1)) 82
  obtain ⟨w4, e4⟩ : ∃ w4, w3.alloc (Obj.cells #[twinF (w.heap.size + 1 + 1)] 82) = w4 := ⟨_, rfl⟩
  have s4 : w4.heap.size = w.heap.size + 4 := by rw [← e4]; simp [s3]
  rw [e4] at b3 t3 ⊢
  clear e4
  rw [s1] at t1
  rw [s2] at t2
  rw [s3] at t3
  have k12 : Below w1.heap.size w1 w3 := bl_then b1 b2
  have k14 : Below w1.heap.size w1 w4 := bl_then k12 b3
  have k24 : Below w2.heap.size w2 w4 := bl_then b2 b3
  exact ⟨h, bl_then b0 k14, s4, (k14.block w.heap.size (by omega)).trans o1, ⟨bl_then b0 k14, t1.below k24, by omega, fun p hp => (by cases hp), fun p hp => (by cases hp), List.nodup_nil⟩, t2.below b3, t3⟩
theorem Cw.drew {w : World} {L : Lay} {s : DS} {W : World} (h : Cw w L s W) : Cw w L s W.drew :=
  ⟨h.d, h.b.drew, h.sz, h.o, h.cp.below (Below.refl _ _).drew, h.bx, h.bf⟩
section
variable {w : World} {L : Lay} {s : DS} {W w2 : World}
/-- Its cells are still there. -/
theorem Cw.keeps (h : Cw w L s W) (k : Kw (fun x => x = w.heap.size + 1) W w2) : w2.cell? ⟨L.d, 4, none⟩ = some (.map (some L.md)) ∧ w2.cell? ⟨L.d, 5, none⟩ = some (.map (some L.mq)) ∧ w2.cell? ⟨L.d, 6, none⟩ = some L.v := by
  have hl := h.d.lt
  have k0 := h.b.size
  obtain ⟨_, _, _, _, a4, a5, a6⟩ := h.d.c
  have e : ∀ i, w2.cell? ⟨L.d, i, none⟩ = w.cell? ⟨L.d, i, none⟩ := fun i => (k.cell (by omega) (by omega)).trans (h.b.cell (p := ⟨L.d, i, none⟩) hl)
  exact ⟨(e 4).trans a4, (e 5).trans a5, (e 6).trans a6⟩
theorem Cw.new (h : Cw w L s W) (k : Kw (fun x => x = w.heap.size + 1) W w2) : w2.heap[w.heap.size]? = some (Obj.cells (dcells L s) 60) :=
  (k.block _ (by have := h.sz; omega) (by omega)).trans h.o
def PostD (w : World) (L : Lay) (s : DS) (W : World) (l : Dir) (tw : List (Nat × Nat)) (r : Ending) (w2 : World) : Prop :=
  ∃ m2 tw2, r = .returned (.map (some m2)) ∧ W.heap.size ≤ m2 ∧ Cp w L s w2 (w.heap.size + 1) tw2 ∧ Grows tw tw2 ∧ (∀ p ∈ l, ∃ b, twl tw2 (L.bk p.2) = some b) ∧ (∃ D', MapAt w2 m2 l (nbk tw2 L) D') ∧ Kw (fun x => x = w.heap.size + 1) W w2
theorem Cw.first (h : Cw w L s W) (iv : Inv s) : Calls Try.prog 51 #[.map (some L.md), ptrV (w.heap.size + 1 + 1 + 1)] W (PostD w L s W s.dir []) := by
  obtain ⟨D, hD⟩ := h.d.dirm
  exact both_any h.d h.cp h.bx h.bf hD (fun p hp => .inl ⟨p.1, hp⟩) (by have := iv.ok.dl; have := iv.ok.st; omega)
theorem Cw.second (h : Cw w L s W) (iv : Inv s) {tw : List (Nat × Nat)} (cp : Cp w L s w2 (w.heap.size + 1) tw) (k : Kw (fun x => x = w.heap.size + 1) W w2) : Calls Try.prog 51 #[.map (some L.mq), ptrV (w.heap.size + 1 + 1 + 1)] w2 (PostD w L s w2 s.kept tw) := by
  obtain ⟨D, hD⟩ := h.d.keptm
  exact both_any h.d cp (h.bx.kw k (by omega)) (h.bf.kw k (by omega)) hD (fun p hp => .inr (.inl ⟨p.1, hp⟩)) (by have := iv.ok.kl; have := iv.ok.st; omega)
theorem Cw.third (h : Cw w L s W) (iv : Inv s) (k : Kw (fun x => x = w.heap.size + 1) W w2) : Calls Try.prog 52 #[L.v] w2 fun r W' => ∃ A c, r = .returned (.slice A s.waits.length c) ∧ W'.ownsRow w2.heap.size 68 3 (.slice A s.waits.length c) s.waits.length (wcells L.bk s.waits) ∧ Below w2.heap.size w2 W' := by
  have hl := h.b.size
  refine (cloneW_any (own_kw h.d.row ((Kw.ofBelow (S := fun x => x = w.heap.size + 1) h.b).trans k) (fun g hg e => ?_)) rfl (by have := iv.ok.kl; have := iv.ok.st; omega)).mono ?_
  · have := own_lt h.d.row hg
    omega
  · rintro r W' ⟨v', rfl, h1, h2⟩
    rcases h1.2 with ⟨e, e2⟩ | ⟨g, c, cur, e, _⟩
    · rw [e] at h1
      refine ⟨none, 0, ?_, ?_, h2⟩
      · rw [e, e2]
      · rw [e2] at h1 ⊢
        exact h1
    · exact ⟨_, c, by rw [e], by rw [← e]; exact h1, h2⟩
theorem Cw.cq (h : Cw w L s W) {m2 m3 c : Nat} {A : Option Addr} {w3 w4 : World} {tw2 tw3 : List (Nat × Nat)} (hm2 : W.heap.size ≤ m2) (hd2 : ∀ p ∈ s.dir, ∃ b, twl tw2 (L.bk p.2) = some b) (hD2 : ∃ D', MapAt w2 m2 s.dir (nbk tw2 L) D') (hk2 : Kw (fun x => x = w.heap.size + 1) W w2)
    (hm3 : w2.heap.size ≤ m3) (hcp3 : Cp w L s w3 (w.heap.size + 1) tw3) (hg3 : Grows tw2 tw3) (hd3 : ∀ p ∈ s.kept, ∃ b, twl tw3 (L.bk p.2) = some b) (hD3 : ∃ D', MapAt w3 m3 s.kept (nbk tw3 L) D') (hk3 : Kw (fun x => x = w.heap.size + 1) w2 w3)
    (hrow4 : w4.ownsRow w3.heap.size 68 3 (.slice A s.waits.length c) s.waits.length (wcells L.bk s.waits)) (hb4 : Below w3.heap.size w3 w4) :
    Cq w L s (((w4.setCell ⟨w.heap.size, 4, none⟩ (.map (some m2))).setCell ⟨w.heap.size, 5, none⟩ (.map (some m3))).setCell ⟨w.heap.size, 6, none⟩ (.slice A s.waits.length c)) w.heap.size (w.heap.size + 1) (w.heap.size + 1 + 1) (w.heap.size + 1 + 1 + 1) m2 m3 (.slice A s.waits.length c) tw3 0 := by
  have k24 := (hk2.trans hk3).trans (Kw.ofBelow (S := fun x => x = w.heap.size + 1) hb4)
  have k5 : Kw (fun b => b = w.heap.size) w4 (((w4.setCell ⟨w.heap.size, 4, none⟩ (.map (some m2))).setCell ⟨w.heap.size, 5, none⟩ (.map (some m3))).setCell ⟨w.heap.size, 6, none⟩ (.slice A s.waits.length c)) :=
    (((Kw.refl (fun b => b = w.heap.size) w4).setCell (p := ⟨w.heap.size, 4, none⟩) rfl _).setCell (p := ⟨w.heap.size, 5, none⟩) rfl _).setCell (p := ⟨w.heap.size, 6, none⟩) rfl _
  have ho := set_heap (i := 6) (v := .slice A s.waits.length c) (set_heap (i := 5) (v := .map (some m3)) (set_heap (i := 4) (v := .map (some m2)) (h.new k24)))
  have hsz := h.sz
  have z2 := hk2.size
  have z3 := hk3.size
  have z4 := hb4.size
  refine ⟨(hcp3.below hb4).kw k5 (fun b e => ⟨by omega, by omega, fun p hp e2 => ?_⟩), (h.bx.kw k24 (by omega)).kw k5 (by omega), (h.bf.kw k24 (by omega)).kw k5 (by omega), ho, ?_, fun p hp => ?_, ?_, hd3, ?_, fun d hd => (by cases hd), by omega, ?_, Nat.le_refl _⟩
  · obtain ⟨j, _, _, h5⟩ := hcp3.old p hp
    have h6 := h.new (hk2.trans hk3)
    have h5 : w3.heap[p.2]? = _ := h5
    rw [e2, e, h6] at h5
    simp [dcells] at h5
  · obtain ⟨D, hD⟩ := hD2
    exact ⟨D, (((hD.fn (fun p hp => by obtain ⟨b, hb⟩ := hd2 p hp; exact nbk_grows hg3 hb)).kw hk3 (by omega)).kw (Kw.ofBelow (S := fun _ => False) hb4) (fun e => e)).kw k5 (by omega)⟩
  · obtain ⟨b, hb⟩ := hd2 p hp
    exact ⟨b, hg3 _ _ hb⟩
  · obtain ⟨D, hD⟩ := hD3
    exact ⟨D, (hD.kw (Kw.ofBelow (S := fun _ => False) hb4) (fun e => e)).kw k5 (by omega)⟩
  · rw [mixC_zero]
    have hr := own_kw hrow4 k5 (fun g hg e => by have := (own_blk hrow4 hg).1; omega)
    refine ⟨hr.1, ?_⟩
    rcases hr.2 with h0 | ⟨g, c', cur, h0, h1, r⟩
    · exact .inl h0
    · exact .inr ⟨g, c', cur, h0, by omega, r⟩
  · obtain ⟨D, hD⟩ := hD2
    have := hD.lt
    omega
/-- A new block's cells are none of it. -/
theorem Cw.past (h : Cw w L s W) {z : World} {i : Nat} {v : Value} (k : z.cell? ⟨L.d, 4, none⟩ = some (.map (some L.md)) ∧ z.cell? ⟨L.d, 5, none⟩ = some (.map (some L.mq)) ∧ z.cell? ⟨L.d, 6, none⟩ = some L.v) :
    (z.setCell ⟨w.heap.size, i, none⟩ v).cell? ⟨L.d, 4, none⟩ = some (.map (some L.md)) ∧ (z.setCell ⟨w.heap.size, i, none⟩ v).cell? ⟨L.d, 5, none⟩ = some (.map (some L.mq)) ∧ (z.setCell ⟨w.heap.size, i, none⟩ v).cell? ⟨L.d, 6, none⟩ = some L.v := by
  have hl := h.d.lt
  have e : ∀ j, (z.setCell ⟨w.heap.size, i, none⟩ v).cell? ⟨L.d, j, none⟩ = z.cell? ⟨L.d, j, none⟩ := fun j => World.cell?_setCell_other z _ _ _ (by intro e; have := congrArg Addr.block e; simp at this; omega)
  exact ⟨(e 4).trans k.1, (e 5).trans k.2.1, (e 6).trans k.2.2⟩
end
theorem twin_chp {w0 : World} {L : Lay} {s : DS} {W : World} {m c : Nat} {tw : List (Nat × Nat)} (hd : DAt w0 L s) (h : Cp w0 L s W m tw) (hc : Box W c (.map (some m)) 81) {d : Ch} (hm : d ∈ s.waits) {pq : Option Addr} (hp : chP L.bk d = .pointer pq) :
    Calls Try.prog 50 #[.pointer pq, ptrV c] W fun r W' => ∃ tw' pn, r = .returned (.pointer pn) ∧ chP (nbk tw' L) d = .pointer pn ∧ Cp w0 L s W' m tw' ∧ Grows tw tw' ∧ (d.to ≠ ByteArray.empty → ∃ b, twl tw' (L.bk d.fi) = some b) ∧ Kw (fun x => x = m) W W' := by
  rw [← hp]
  refine (twin_ch hd h hc hm).mono ?_
  rintro r W' ⟨tw', rfl, h1, h2, h3, h4⟩
  have hq : ∃ pn, chP (nbk tw' L) d = .pointer pn := by
    unfold chP ptrV
    split <;> exact ⟨_, rfl⟩
  obtain ⟨pn, hpn⟩ := hq
  exact ⟨tw', pn, by rw [hpn], hpn, h1, h2, h3, h4⟩
theorem Cq.drew {w0 : World} {L : Lay} {s : DS} {W : World} {O m c cf m2 m3 : Nat} {v : Value} {tw : List (Nat × Nat)} {i : Nat} (h : Cq w0 L s W O m c cf m2 m3 v tw i) : Cq w0 L s W.drew O m c cf m2 m3 v tw i :=
  h.call (h.cp.below (Below.refl _ _).drew) (Grows.refl _) (Kw.refl _ _).drew
theorem Cq.cells {w0 : World} {L : Lay} {s : DS} {W : World} {O m c cf m2 m3 : Nat} {v : Value} {tw : List (Nat × Nat)} {i : Nat} (h : Cq w0 L s W O m c cf m2 m3 v tw i) : W.cell? ⟨O, 6, none⟩ = some v ∧ O < W.heap.size ∧ W.cell? ⟨cf, 0, none⟩ = some (twinF c) ∧ cf < W.heap.size :=
  ⟨cell_of h.o 6, (Array.getElem?_eq_some_iff.1 h.o).1, h.bf.cell, h.bf.lt⟩
set_option maxRecDepth 100000 in
set_option maxHeartbeats 16000000 in
theorem copy_any (L : Lay) (s : DS) (w : World) (h : DAt w L s) (iv : Inv s) :
    Calls Try.prog 24 #[dP L] w fun r w' => ∃ d, r = .returned (ptrV d) ∧ Dk w' d s w.heap.size ∧ Below w.heap.size w w' := by
  have hmm := @run_makeMap Try.prog
  have H := Lib.hid h
  have IV := Lib.hid iv
  obtain ⟨a0, a1, a2, a3, a4, a5, a6⟩ := h.c
  have hl := h.lt
  have hq := eq57 w L.md
  have hrowv : ∃ B n c, L.v = .slice B n c := by
    rcases h.row.2 with ⟨e, _⟩ | ⟨g, c, cur, e, _⟩ <;> exact ⟨_, _, _, e⟩
  obtain ⟨vb, vn, vc, hv⟩ := hrowv
  rw [hv] at a6
  have HV := Lib.hid hv
  clear h iv hv
  unfold dP at *
  go_enter Try.func24, Try.ntmps24
  have HS : Hid (Cw w L s ((((w.alloc (Obj.cells #[.int .i64 s.room, .int .i64 s.steps, .int .i64 s.fuse, .bool s.down, .map (some L.md), .map (some L.mq), .slice vb vn vc] 60)).alloc (Obj.map #[] 0)).alloc (Obj.cells #[.map (some (w.heap.size + 1))] 81)).alloc (Obj.cells #[.func (.func 50) #[] #[.pointer (some ⟨w.heap.size + 1 + 1, 0, none⟩)]] 82))) := Lib.hid (by
    have := Cw.start H.out
    unfold dcells twinF ptrV at this
    rw [HV.out] at this
    exact this)
  go_wp2_with (fail)
  generalize ((((w.alloc (Obj.cells #[.int .i64 s.room, .int .i64 s.steps, .int .i64 s.fuse, .bool s.down, .map (some L.md), .map (some L.mq), .slice vb vn vc] 60)).alloc (Obj.map #[] 0)).alloc (Obj.cells #[.map (some (w.heap.size + 1))] 81)).alloc (Obj.cells #[.func (.func 50) #[] #[.pointer (some ⟨w.heap.size + 1 + 1, 0, none⟩)]] 82)) = W at *
  have HSD := Lib.hid HS.out.drew
  have HB1 := Lib.hid (HSD.out.first IV.out)
  have HB2 := Lib.hid (fun (w2 : World) tw (cp : Cp w L s w2 (w.heap.size + 1) tw) k => HSD.out.second IV.out cp k)
  have HB3 := Lib.hid (fun (w2 : World) k => HSD.out.third (w2 := w2) IV.out k)
  rw [HV.out] at HB3
  have HKP := Lib.hid (fun (w2 : World) k => HSD.out.keeps (w2 := w2) k)
  rw [HV.out] at HKP
  have HPA : Hid (∀ (z : World) (i : Nat) (v : Value), (z.cell? ⟨L.d, 4, none⟩ = some (.map (some L.md)) ∧ z.cell? ⟨L.d, 5, none⟩ = some (.map (some L.mq)) ∧ z.cell? ⟨L.d, 6, none⟩ = some L.v) → _) := Lib.hid (fun z i v k => HSD.out.past (i := i) (v := v) k)
  rw [HV.out] at HPA
  unfold PostD ptrV at HB1 HB2
  have HST : Hid (∀ w4, Kw (fun x => x = w.heap.size + 1) W.drew w4 → w4.cell? ⟨w.heap.size, 4, none⟩ = some (.map (some L.md)) ∧ w4.cell? ⟨w.heap.size, 5, none⟩ = some (.map (some L.mq)) ∧ w4.cell? ⟨w.heap.size, 6, none⟩ = some (.slice vb vn vc) ∧ (∀ i, w4.frozen? ⟨w.heap.size, i, none⟩ = false) ∧ w.heap.size < w4.heap.size) := Lib.hid (fun w4 k => by
    have e := HSD.out.new k
    refine ⟨cell_of e 4, cell_of e 5, ?_, fun i => froz_of e i, (Array.getElem?_eq_some_iff.1 e).1⟩
    rw [← HV.out]
    exact cell_of e 6)
  obtain ⟨a4, a5, a6⟩ := HKP.out W.drew (Kw.refl _ _)
  clear a0 a1 a2 a3 hq hmm
  go_region_held3 (fun z => z.cell? ⟨L.d, 4, none⟩ = some (.map (some L.md)) ∧ z.cell? ⟨L.d, 5, none⟩ = some (.map (some L.mq)) ∧ z.cell? ⟨L.d, 6, none⟩ = some (.slice vb vn vc))
    (first | exact ⟨a4, a5, a6⟩ | exact HKP.out _ hk2 | exact HKP.out _ (hk2.trans hk3) | exact HKP.out _ k24 | exact HPA.out _ _ _ (HKP.out _ k24) | exact HPA.out _ _ _ (HPA.out _ _ _ (HKP.out _ k24)) | exact HPA.out _ _ _ (HPA.out _ _ _ (HPA.out _ _ _ (HKP.out _ k24))))
    ((first
      | (go_at_call 51; refine (HB2.out _ _ hcp2 hk2).mono ?_; rintro r w3 ⟨m3, tw3, rfl, hm3, hcp3, hg3, hd3, hD3, hk3⟩)
      | (go_at_call 51; refine HB1.out.mono ?_; rintro r w2 ⟨m2, tw2, rfl, hm2, hcp2, hg2, hd2, hD2, hk2⟩)
      | (go_at_call 52; refine (HB3.out _ (hk2.trans hk3)).mono ?_; rintro r w4 ⟨A4, c4, rfl, hrow4, hb4⟩; have k24 := (hk2.trans hk3).trans (Kw.ofBelow (S := fun x => x = w.heap.size + 1) hb4); obtain ⟨o4, o5, o6, of, ol⟩ := HST.out w4 k24)))
  rename_i hHeld
  clear hHeld
  have HQ := Lib.hid (HSD.out.cq hm2 hd2 hD2 hk2 hm3 hcp3 hg3 hd3 hD3 hk3 hrow4 hb4)
  clear hm2 hcp2 hg2 hd2 hD2 hk2 hm3 hcp3 hg3 hd3 hD3 hk3 hrow4 hb4 k24 o4 o5 o6 of ol a4 a5 a6
  clear HB1 HB2 HB3 HKP HPA HST HS HSD
  generalize (((w4.setCell ⟨w.heap.size, 4, none⟩ (.map (some m2))).setCell ⟨w.heap.size, 5, none⟩ (.map (some m3))).setCell ⟨w.heap.size, 6, none⟩ (.slice A4 s.waits.length c4)) = W5 at *
  obtain ⟨n, hn⟩ : ∃ n, s.waits.length = n := ⟨_, rfl⟩
  have HN := Lib.hid hn
  rw [hn] at HQ ⊢
  obtain ⟨o6, ol, f0, fl⟩ := HQ.out.cells
  have hnb : n ≤ 1000000 := by have := IV.out.ok.kl; have := IV.out.ok.st; omega
  clear hn
  go_wp2_with (fail)
  go_loopw [46] (fun vi wr => ∃ i : Nat, i ≤ n ∧ vi = .int .i64 i ∧ ∃ tw, Cq w L s wr w.heap.size (w.heap.size + 1) (w.heap.size + 1 + 1) (w.heap.size + 1 + 1 + 1) m2 m3 (.slice A4 n c4) tw i) (fun i _ => n - (intOf i).toNat)
  case atStart => exact ⟨0, Nat.zero_le _, rfl, tw3, HQ.out⟩
  case round =>
    obtain ⟨i, hin, rfl, tw, hq⟩ := hrel
    have HQ2 := Lib.hid hq
    have HQD := Lib.hid hq.drew
    obtain ⟨o6, ol, f0, fl⟩ := hq.cells
    unfold twinF ptrV at f0
    clear hq
    by_cases hi : i < n
    · have hi0 : (0 : Int) ≤ (i : Int) := by omega
      have hi1 : (i : Int) < (n : Int) := by omega
      obtain ⟨g, rfl⟩ : ∃ g, A4 = some ⟨g, 0, none⟩ := by
        rcases HQ2.out.row.2 with ⟨_, h0⟩ | ⟨g, c, cur, e, _⟩
        · have := HN.out
          omega
        · cases e
          exact ⟨g, rfl⟩
      have hrow := HQD.out.row
      rw [HN.out] at hrow
      obtain ⟨gl, gB, gc, gf, gn⟩ := own_cells hrow
      have r2 := gc _ _ (mixC_at tw L (i := i) (by rw [HN.out]; exact hi))
      obtain ⟨d, hdd⟩ : ∃ d, s.waits.getD i zeroC = d := ⟨_, rfl⟩
      have hdm : d ∈ s.waits := by
        rw [← hdd, List.getD_eq_getElem?_getD, List.getElem?_eq_getElem (by rw [HN.out]; exact hi)]
        exact List.getElem_mem _
      rw [hdd] at r2
      have hpq : ∃ pq, chP L.bk d = .pointer pq := by
        unfold chP ptrV
        split <;> exact ⟨_, rfl⟩
      obtain ⟨pq, hpq⟩ := hpq
      rw [hpq] at r2
      have HTW := Lib.hid (twin_chp H.out HQD.out.cp HQD.out.bx hdm hpq)
      unfold ptrV at HTW
      have HSTO : Hid (∀ w6, Kw (fun x => x = w.heap.size + 1) wr.drew w6 → w6.cell? ⟨g, i * 3 + 2, none⟩ = some (.pointer pq) ∧ w6.frozen? ⟨g, i * 3 + 2, none⟩ = false ∧ g < w6.heap.size ∧ w6.cell? ⟨w.heap.size, 6, none⟩ = some (.slice (some ⟨g, 0, none⟩) n c4) ∧ w6.cell? ⟨w.heap.size + 1 + 1 + 1, 0, none⟩ = some (.func (.func 50) #[] #[.pointer (some ⟨w.heap.size + 1 + 1, 0, none⟩)])) := Lib.hid (fun w6 k => by
        have hgm : ¬ g = w.heap.size + 1 := fun e => by
          obtain ⟨_, cur, hg⟩ := own_blk hrow (g := g) rfl
          obtain ⟨es, cl, h1, _⟩ := HQD.out.cp.t
          rw [e, h1] at hg
          cases hg
        have hz := k.size
        refine ⟨(k.cell gl hgm).trans r2, (k.frozen gl hgm).trans (gf _), by omega, (k.cell (b := w.heap.size) (i := 6) ol (by omega)).trans o6, (k.cell (b := w.heap.size + 1 + 1 + 1) (i := 0) fl (by omega)).trans f0⟩)
      have HGN : Hid (g ≠ w.heap.size ∧ g ≠ w.heap.size + 1 + 1 + 1) := Lib.hid ⟨fun e => by
        obtain ⟨_, cur, hg⟩ := own_blk hrow (g := g) rfl
        rw [e, HQD.out.o] at hg
        simp at hg, fun e => by
        obtain ⟨_, cur, hg⟩ := own_blk hrow (g := g) rfl
        have h2 : wr.drew.heap[w.heap.size + 1 + 1 + 1]? = _ := HQD.out.bf
        rw [e, h2] at hg
        simp at hg⟩
      have HDD := Lib.hid hdd
      have HWI : Hid (IntKind.i64.wrap ((i : Int) + 1) = (i : Int) + 1) := Lib.hid (IntWalk.i64_in _ (by omega))
      clear hrow gB gc gf hdd hdm hpq
      go_wp2_with (fail)
      have x6 : wr.drew.cell? ⟨w.heap.size, 6, none⟩ = some (.slice (some ⟨g, 0, none⟩) n c4) := o6
      have x0 : wr.drew.cell? ⟨w.heap.size + 1 + 1 + 1, 0, none⟩ = some (.func (.func 50) #[] #[.pointer (some ⟨w.heap.size + 1 + 1, 0, none⟩)]) := f0
      go_region_with
        ((first
          | (go_at_call 50; refine HTW.out.mono ?_; rintro r w6 ⟨tw6, pn, rfl, hpn6, hcp6, hg6, hx6, hk6⟩; obtain ⟨st, sf, sl, s6, s0⟩ := HSTO.out w6 hk6)))
      all_goals (
        have HQ6 : Hid (Cq w L s (w6.setCell ⟨g, i * 3 + 2, none⟩ (.pointer pn)) w.heap.size (w.heap.size + 1) (w.heap.size + 1 + 1) (w.heap.size + 1 + 1 + 1) m2 m3 (.slice (some ⟨g, 0, none⟩) n c4) tw6 (i + 1)) := Lib.hid (by
          have h1 := (HQD.out.call hcp6 hg6 hk6).store HN.out hi (by rw [HDD.out]; exact hx6)
          rw [HDD.out, hpn6] at h1
          exact h1)
        clear hcp6 hg6 hx6 hk6 hpn6 st sf s6 s0 sl x6 x0
        go_wp2_with (fail)
        exact ⟨⟨i + 1, by omega, by push_cast; rfl, tw6, HQ6.out⟩, by simp [intOf]; omega⟩)
    · have hi1 : ¬ (i : Int) < (n : Int) := by omega
      have HDN : Hid (Dk wr w.heap.size s w.heap.size ∧ Below w.heap.size w wr) := Lib.hid (by
        have hie : i = n := by omega
        subst hie
        have := HQ2.out
        rw [← HN.out] at this
        exact ⟨this.done H.out, this.cp.b⟩)
      go_wp2_with (fail)
      go_ret
      exact ⟨_, rfl, HDN.out.1, HDN.out.2⟩
end Go.Proofs.Ytjgiohlkpenipaa
