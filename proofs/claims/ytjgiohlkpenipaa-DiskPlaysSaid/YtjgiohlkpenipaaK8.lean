/- Contract of play. Conditions: as each theorem states them. -/
import Derived.Test.YtjgiohlkpenipaaK6
namespace Go.Proofs.Ytjgiohlkpenipaa
open Go.RowKit Go.Maps
set_option linter.unusedVariables false
set_option linter.unusedSimpArgs false

theorem PlayR.same {w W : World} {L : Lay} {s : DS} {b : Nat} {v : Rv} {r : Ending} (hb : Below w.heap.size w W) (hd : DAt w L s) (hr : RefAt w b v s) (h : r = .returned (.bool true)) : PlayR w L s b s r W :=
  ⟨h, L, v, rfl, hd.below hb, hr.below hb, Kw.ofBelow hb, fun x hx => .inl hx⟩
theorem PlayR.then {w W W' : World} {L : Lay} {s s' : DS} {b : Nat} {r r' : Ending} (h : PlayR w L s b s' r W) (k : Below W.heap.size W W') (hr : r' = .returned (.bool true)) : PlayR w L s b s' r' W' := by
  obtain ⟨_, L', v', e, d, f, kk, ff⟩ := h
  exact ⟨hr, L', v', e, d.below k, f.below k, kk.trans (Kw.ofBelow k), ff⟩
set_option maxRecDepth 100000 in
set_option maxHeartbeats 8000000 in
theorem play_none (L : Lay) (s : DS) (o : Oq) (b : Nat) (v : Rv) (w : World) (hd : DAt w L s) (hr : RefAt w b v s) (j : Jn s) (hs : s.steps < 1000000) (hn : okN o.nm) (hnn : -9223372036854775808 ≤ o.n ∧ o.n < 9223372036854775808) (h1 : ¬ o.k = 1) (h2 : ¬ o.k = 2) (h3 : ¬ o.k = 3) (h4 : ¬ o.k = 4) (h5 : ¬ o.k = 5) (h6 : ¬ o.k = 6) (h7 : ¬ o.k = 7) (h8 : ¬ o.k = 8) (h9 : ¬ o.k = 9) :
    Calls Try.prog 25 #[dP L, ptrV b, opV o] w (PlayR w L s b (s.play o)) := by
  have hE : s.play o = s := by unfold DS.play; rw [if_neg h1, if_neg h2, if_neg h3, if_neg h4, if_neg h5, if_neg h6, if_neg h7, if_neg h8, if_neg h9]
  rw [hE]
  unfold opV
  obtain ⟨k, nm, dt, nn, A, cs, c⟩ := o
  dsimp only at *
  have HB : Hid (Below w.heap.size w (w.alloc (Obj.cells #[.int .i64 k, .string nm, .string dt, .int .i64 nn, .slice A cs.length c] 38))) := Lib.hid (bl_alloc (Below.refl w.heap.size w) _)
  have D := Lib.hid hd
  have R := Lib.hid hr
  clear hE hd hr j
  unfold dP ptrV at *
  go_enter Try.func25, Try.ntmps25
  go_wp2_with (fail)
  go_ret
  exact PlayR.same HB.out D.out R.out rfl
set_option maxRecDepth 100000 in
set_option maxHeartbeats 8000000 in
theorem play_fuse (L : Lay) (s : DS) (o : Oq) (b : Nat) (v : Rv) (w : World) (hd : DAt w L s) (hr : RefAt w b v s) (j : Jn s) (hs : s.steps < 1000000) (hn : okN o.nm) (hnn : -9223372036854775808 ≤ o.n ∧ o.n < 9223372036854775808) (hk : o.k = 7) :
    Calls Try.prog 25 #[dP L, ptrV b, opV o] w (PlayR w L s b (s.play o)) := by
  have hE : s.play o = s.fuseTo o.n := by unfold DS.play; rw [if_neg (by rw [hk]; decide), if_neg (by rw [hk]; decide), if_neg (by rw [hk]; decide), if_neg (by rw [hk]; decide), if_neg (by rw [hk]; decide), if_neg (by rw [hk]; decide), if_pos hk]
  rw [hE]
  unfold opV
  rw [hk]
  obtain ⟨k, nm, dt, nn, A, cs, c⟩ := o
  dsimp only at *
  have HB : Hid (Below w.heap.size w (w.alloc (Obj.cells #[.int .i64 7, .string nm, .string dt, .int .i64 nn, .slice A cs.length c] 38))) := Lib.hid (bl_alloc (Below.refl w.heap.size w) _)
  have HX := Lib.hid (new_heap w (Obj.cells #[.int .i64 7, .string nm, .string dt, .int .i64 nn, .slice A cs.length c] 38))
  have D0 := Lib.hid (hd.below HB.out)
  have R0 := Lib.hid (hr.below HB.out)
  have HC := Lib.hid (fuse_any L s nn _ D0.out hnn.2)
  have e1 : (s.fuseTo nn).dir = s.dir ∧ (s.fuseTo nn).kept = s.kept ∧ (s.fuseTo nn).waits = s.waits := by
    unfold DS.fuseTo
    split <;> exact ⟨rfl, rfl, rfl⟩
  have HFE := Lib.hid e1
  clear hE hd hr j hk e1
  unfold dP ptrV at *
  go_enter Try.func25, Try.ntmps25
  go_wp2_with (fail)
  generalize (w.alloc (Obj.cells #[.int .i64 7, .string nm, .string dt, .int .i64 nn, .slice A cs.length c] 38)) = W at *
  refine HC.out.mono ?_
  rintro r w2 ⟨rfl, hd2, hk2⟩
  have hkf : Kw (Foot L s) W w2 := hk2.mono (fun b _ e => .inl e)
  have R2 := Lib.hid (R0.out.off D0.out hkf)
  have D2 := Lib.hid hd2
  have K2 := Lib.hid hkf
  have x3 := cell_of (box_off HX.out D0.out hkf) 3
  have xl := (Array.getElem?_eq_some_iff.1 (box_off HX.out D0.out hkf)).1
  simp only [List.getElem?_toArray, List.getElem?_cons_zero, List.getElem?_cons_succ] at x3
  have b3 := R2.out.c.2.2.2.1
  have b2 := R2.out.c.2.2.1
  have bl := R2.out.lt
  have bf := R2.out.fz 2
  clear hd2 hk2 hkf
  cases hdn : s.down with
  | true =>
    have hf : s.fuseTo nn = s := by unfold DS.fuseTo; rw [if_pos hdn]
    rw [hdn] at b3
    rw [hf] at D2
    have HFF := Lib.hid hf
    clear hdn hf
    go_wp2_with (fail)
    go_ret
    rw [HFF.out]
    exact play_end HB.out R0.out D0.out rfl D2.out K2.out (fun x hx => .inl hx) R2.out (Kw.refl _ _) rfl
  | false =>
    have hf : s.fuseTo nn = { s with fuse := nn.toNat } := by unfold DS.fuseTo; rw [if_neg (by simp [hdn])]
    rw [hdn] at b3
    have hmx : (max nn 0 : Int) = ((nn.toNat : Nat) : Int) := by omega
    have R3 : Hid (RefAt (w2.setCell ⟨b, 2, none⟩ (.int .i64 (max nn 0))) b v (s.fuseTo nn)) := Lib.hid (by
      rw [hf, hmx]
      exact R2.out.set1 (s' := { s with fuse := nn.toNat }) 2 _ rfl rfl rfl rfl rfl)
    have K3 : Hid (Kw (fun x => x = b) w2 (w2.setCell ⟨b, 2, none⟩ (.int .i64 (max nn 0)))) := Lib.hid ((Kw.refl (fun x => x = b) w2).setCell (p := ⟨b, 2, none⟩) rfl _)
    clear hdn hf hmx
    go_wp2_with (fail)
    go_ret
    exact play_end HB.out R0.out D0.out rfl D2.out K2.out (fun x hx => .inl (foot_eq HFE.out.1 HFE.out.2.1 HFE.out.2.2 hx)) R3.out K3.out rfl
set_option maxRecDepth 100000 in
set_option maxHeartbeats 8000000 in
theorem play_turn0 (L : Lay) (s : DS) (o : Oq) (b : Nat) (v : Rv) (w : World) (hd : DAt w L s) (hr : RefAt w b v s) (j : Jn s) (hs : s.steps < 1000000) (hn : okN o.nm) (hnn : -9223372036854775808 ≤ o.n ∧ o.n < 9223372036854775808) (hk : o.k = 9) (hz : o.dt.size = 0) :
    Calls Try.prog 25 #[dP L, ptrV b, opV o] w (PlayR w L s b (s.play o)) := by
  have hE : s.play o = (s.turn o.nm o.n (0)).2 := by unfold DS.play; rw [if_neg (by rw [hk]; decide), if_neg (by rw [hk]; decide), if_neg (by rw [hk]; decide), if_neg (by rw [hk]; decide), if_neg (by rw [hk]; decide), if_neg (by rw [hk]; decide), if_neg (by rw [hk]; decide), if_neg (by rw [hk]; decide), if_pos hk]; rw [if_neg (by rw [hz]; decide)]
  rw [hE]
  unfold opV
  rw [hk]
  obtain ⟨k, nm, dt, nn, A, cs, c⟩ := o
  dsimp only at *
  have hzi : (dt.size : Int) = 0 := by have hz : dt.size = 0 := hz; omega
  have hx : (0 : Nat) < 256 := by decide
  have HX := Lib.hid (new_heap w (Obj.cells #[.int .i64 9, .string nm, .string dt, .int .i64 nn, .slice A cs.length c] 38))
  have HB : Hid (Below w.heap.size w (w.alloc (Obj.cells #[.int .i64 9, .string nm, .string dt, .int .i64 nn, .slice A cs.length c] 38)).drew) := Lib.hid (bl_alloc (Below.refl w.heap.size w) (Obj.cells #[.int .i64 9, .string nm, .string dt, .int .i64 nn, .slice A cs.length c] 38)).drew
  have D0 := Lib.hid (hd.below HB.out)
  have R0 := Lib.hid (hr.below HB.out)
  obtain ⟨res, hres⟩ : ∃ r, s.turn nm nn 0 = r := ⟨_, rfl⟩
  have HDC := Lib.hid (turn_any L s nm nn 0 _ D0.out j.iv.ok hn hx)
  have HRC : Hid (∀ w2 r, OpR (w.alloc (Obj.cells #[.int .i64 9, .string nm, .string dt, .int .i64 nn, .slice A cs.length c] 38)).drew L s res r w2 → Calls Try.prog 61 #[ptrV b, .string nm, .int .i64 nn, .int .u8 0] w2 (RefR w2 b res)) := Lib.hid (fun w2 r h2 => by
    obtain ⟨_, L2, e2, d2, k2, f2⟩ := h2
    rw [← hres]
    exact rturn_any b v s nm nn 0 w2 (R0.out.off D0.out k2) j.iv j.fl hd.fb hx)
  rw [hres] at HDC ⊢
  obtain ⟨re, rs⟩ := res
  have HK1 : Hid ((w.alloc (Obj.cells #[.int .i64 9, .string nm, .string dt, .int .i64 nn, .slice A cs.length c] 38)).drew.cell? ⟨w.heap.size, 1, none⟩ = some (.string nm) ∧ (w.alloc (Obj.cells #[.int .i64 9, .string nm, .string dt, .int .i64 nn, .slice A cs.length c] 38)).drew.cell? ⟨w.heap.size, 3, none⟩ = some (.int .i64 nn)) := Lib.hid (by
    have e : (w.alloc (Obj.cells #[.int .i64 9, .string nm, .string dt, .int .i64 nn, .slice A cs.length c] 38)).drew.heap[w.heap.size]? = some (Obj.cells #[.int .i64 9, .string nm, .string dt, .int .i64 nn, .slice A cs.length c] 38) := HX.out
    exact ⟨cell_of e 1, cell_of e 3⟩)
  have HK2 : Hid (∀ z r, OpR (w.alloc (Obj.cells #[.int .i64 9, .string nm, .string dt, .int .i64 nn, .slice A cs.length c] 38)).drew L s (re, rs) r z → z.cell? ⟨w.heap.size, 1, none⟩ = some (.string nm) ∧ z.cell? ⟨w.heap.size, 3, none⟩ = some (.int .i64 nn)) := Lib.hid (fun z r h2 => by
    obtain ⟨_, L2, e2, d2, k2, f2⟩ := h2
    have e := box_off (w := (w.alloc (Obj.cells #[.int .i64 9, .string nm, .string dt, .int .i64 nn, .slice A cs.length c] 38)).drew) HX.out D0.out k2
    exact ⟨cell_of e 1, cell_of e 3⟩)
  have HK3 : Hid (∀ z y r q, OpR (w.alloc (Obj.cells #[.int .i64 9, .string nm, .string dt, .int .i64 nn, .slice A cs.length c] 38)).drew L s (re, rs) r z → RefR z b (re, rs) q y → y.cell? ⟨w.heap.size, 1, none⟩ = some (.string nm) ∧ y.cell? ⟨w.heap.size, 3, none⟩ = some (.int .i64 nn)) := Lib.hid (fun z y r q h2 h3 => by
    obtain ⟨_, L2, e2, d2, k2, f2⟩ := h2
    have e := box_off2 (box_off (w := (w.alloc (Obj.cells #[.int .i64 9, .string nm, .string dt, .int .i64 nn, .slice A cs.length c] 38)).drew) HX.out D0.out k2) (R0.out.off D0.out k2) h3.2.2
    exact ⟨cell_of e 1, cell_of e 3⟩)
  clear hd hr j hres hE hk
  unfold dP ptrV at *
  go_enter Try.func25, Try.ntmps25
  go_wp2_with (fail)
  generalize (w.alloc (Obj.cells #[.int .i64 9, .string nm, .string dt, .int .i64 nn, .slice A cs.length c] 38)) = W at *
  obtain ⟨x1, x3⟩ := HK1.out
  go_region_held3 (fun z => z.cell? ⟨w.heap.size, 1, none⟩ = some (.string nm) ∧ z.cell? ⟨w.heap.size, 3, none⟩ = some (.int .i64 nn))
    (first | exact ⟨x1, x3⟩ | exact HK3.out _ _ _ _ h2 h3 | exact HK2.out _ _ h2)
    ((first
      | (go_at_call 61; refine (HRC.out _ _ h2).mono ?_; rintro r3 w3 h3; obtain rfl := h3.1)
      | (go_at_call 60; refine HDC.out.mono ?_; rintro r2 w2 h2; obtain rfl := h2.1)))
  rename_i hHeld
  clear hHeld x1
  have H2 := Lib.hid h2
  have H3 := Lib.hid h3
  clear h2 h3
  go_wp2_with (fail)
  go_ret
  exact play_end2 HB.out R0.out D0.out H2.out H3.out rfl
set_option maxRecDepth 100000 in
set_option maxHeartbeats 8000000 in
theorem play_turn1 (L : Lay) (s : DS) (o : Oq) (b : Nat) (v : Rv) (w : World) (hd : DAt w L s) (hr : RefAt w b v s) (j : Jn s) (hs : s.steps < 1000000) (hn : okN o.nm) (hnn : -9223372036854775808 ≤ o.n ∧ o.n < 9223372036854775808) (hk : o.k = 9) (hz : 0 < o.dt.size) :
    Calls Try.prog 25 #[dP L, ptrV b, opV o] w (PlayR w L s b (s.play o)) := by
  have hE : s.play o = (s.turn o.nm o.n (o.dt[0].toNat)).2 := by unfold DS.play; rw [if_neg (by rw [hk]; decide), if_neg (by rw [hk]; decide), if_neg (by rw [hk]; decide), if_neg (by rw [hk]; decide), if_neg (by rw [hk]; decide), if_neg (by rw [hk]; decide), if_neg (by rw [hk]; decide), if_neg (by rw [hk]; decide), if_pos hk]; rw [if_pos hz]; congr 3; unfold bAt; rw [Array.getD_eq_getD_getElem?, Array.getElem?_eq_getElem (by simpa using hz)]; rfl
  rw [hE]
  unfold opV
  rw [hk]
  obtain ⟨k, nm, dt, nn, A, cs, c⟩ := o
  dsimp only at *
  have hzi : (0 : Int) < (dt.size : Int) := by have hz : 0 < dt.size := hz; omega
  have hx : dt[0].toNat < 256 := dt[0].toNat_lt
  obtain ⟨x, hxx⟩ : ∃ x, dt[0].toNat = x := ⟨_, rfl⟩
  rw [hxx] at hx ⊢
  have HX := Lib.hid (new_heap w (Obj.cells #[.int .i64 9, .string nm, .string dt, .int .i64 nn, .slice A cs.length c] 38))
  have HB : Hid (Below w.heap.size w (w.alloc (Obj.cells #[.int .i64 9, .string nm, .string dt, .int .i64 nn, .slice A cs.length c] 38)).drew) := Lib.hid (bl_alloc (Below.refl w.heap.size w) (Obj.cells #[.int .i64 9, .string nm, .string dt, .int .i64 nn, .slice A cs.length c] 38)).drew
  have D0 := Lib.hid (hd.below HB.out)
  have R0 := Lib.hid (hr.below HB.out)
  obtain ⟨res, hres⟩ : ∃ r, s.turn nm nn x = r := ⟨_, rfl⟩
  have HDC := Lib.hid (turn_any L s nm nn x _ D0.out j.iv.ok hn hx)
  have HRC : Hid (∀ w2 r, OpR (w.alloc (Obj.cells #[.int .i64 9, .string nm, .string dt, .int .i64 nn, .slice A cs.length c] 38)).drew L s res r w2 → Calls Try.prog 61 #[ptrV b, .string nm, .int .i64 nn, .int .u8 x] w2 (RefR w2 b res)) := Lib.hid (fun w2 r h2 => by
    obtain ⟨_, L2, e2, d2, k2, f2⟩ := h2
    rw [← hres]
    exact rturn_any b v s nm nn x w2 (R0.out.off D0.out k2) j.iv j.fl hd.fb hx)
  rw [hres] at HDC ⊢
  obtain ⟨re, rs⟩ := res
  have HK1 : Hid ((w.alloc (Obj.cells #[.int .i64 9, .string nm, .string dt, .int .i64 nn, .slice A cs.length c] 38)).drew.cell? ⟨w.heap.size, 1, none⟩ = some (.string nm) ∧ (w.alloc (Obj.cells #[.int .i64 9, .string nm, .string dt, .int .i64 nn, .slice A cs.length c] 38)).drew.cell? ⟨w.heap.size, 3, none⟩ = some (.int .i64 nn)) := Lib.hid (by
    have e : (w.alloc (Obj.cells #[.int .i64 9, .string nm, .string dt, .int .i64 nn, .slice A cs.length c] 38)).drew.heap[w.heap.size]? = some (Obj.cells #[.int .i64 9, .string nm, .string dt, .int .i64 nn, .slice A cs.length c] 38) := HX.out
    exact ⟨cell_of e 1, cell_of e 3⟩)
  have HK2 : Hid (∀ z r, OpR (w.alloc (Obj.cells #[.int .i64 9, .string nm, .string dt, .int .i64 nn, .slice A cs.length c] 38)).drew L s (re, rs) r z → z.cell? ⟨w.heap.size, 1, none⟩ = some (.string nm) ∧ z.cell? ⟨w.heap.size, 3, none⟩ = some (.int .i64 nn)) := Lib.hid (fun z r h2 => by
    obtain ⟨_, L2, e2, d2, k2, f2⟩ := h2
    have e := box_off (w := (w.alloc (Obj.cells #[.int .i64 9, .string nm, .string dt, .int .i64 nn, .slice A cs.length c] 38)).drew) HX.out D0.out k2
    exact ⟨cell_of e 1, cell_of e 3⟩)
  have HK3 : Hid (∀ z y r q, OpR (w.alloc (Obj.cells #[.int .i64 9, .string nm, .string dt, .int .i64 nn, .slice A cs.length c] 38)).drew L s (re, rs) r z → RefR z b (re, rs) q y → y.cell? ⟨w.heap.size, 1, none⟩ = some (.string nm) ∧ y.cell? ⟨w.heap.size, 3, none⟩ = some (.int .i64 nn)) := Lib.hid (fun z y r q h2 h3 => by
    obtain ⟨_, L2, e2, d2, k2, f2⟩ := h2
    have e := box_off2 (box_off (w := (w.alloc (Obj.cells #[.int .i64 9, .string nm, .string dt, .int .i64 nn, .slice A cs.length c] 38)).drew) HX.out D0.out k2) (R0.out.off D0.out k2) h3.2.2
    exact ⟨cell_of e 1, cell_of e 3⟩)
  clear hd hr j hres hE hk
  unfold dP ptrV at *
  go_enter Try.func25, Try.ntmps25
  go_wp2_with (fail)
  generalize (w.alloc (Obj.cells #[.int .i64 9, .string nm, .string dt, .int .i64 nn, .slice A cs.length c] 38)) = W at *
  obtain ⟨x1, x3⟩ := HK1.out
  go_region_held3 (fun z => z.cell? ⟨w.heap.size, 1, none⟩ = some (.string nm) ∧ z.cell? ⟨w.heap.size, 3, none⟩ = some (.int .i64 nn))
    (first | exact ⟨x1, x3⟩ | exact HK3.out _ _ _ _ h2 h3 | exact HK2.out _ _ h2)
    ((first
      | (go_at_call 61; refine (HRC.out _ _ h2).mono ?_; rintro r3 w3 h3; obtain rfl := h3.1)
      | (go_at_call 60; refine HDC.out.mono ?_; rintro r2 w2 h2; obtain rfl := h2.1)))
  rename_i hHeld
  clear hHeld x1
  have H2 := Lib.hid h2
  have H3 := Lib.hid h3
  clear h2 h3
  go_wp2_with (fail)
  go_ret
  exact play_end2 HB.out R0.out D0.out H2.out H3.out rfl
theorem und22b : Try.prog.underlying 22 = some (.slice 3) := by kernel_rfl
theorem i3 : (Try.prog.info? 3).map (fun i => (i.zero, i.size, i.bytes)) = some (some (.int .i64 0), 1, 8) := by kernel_rfl
def icells (cs : List Int) : List Value := cs.map (Value.int .i64)
/-- append of choices to a row. -/
theorem wpList_append_cs {ops : Array Oper} {rest : List Oper} {o : Oper} {a : Act} {Q : Exit → Act → World → Prop} (w : World) (hgd : o.guard = none) (s x : Operand)
    (ho : o.op = .call { callee := .builtin .append, args := #[s, x], argTypes := #[22, 22] }) (base : Nat) (v : Value) (hs : a.eval s = v) (hown : w.ownsRow base 3 1 v 0 [])
    (A : Option Addr) (cs : List Int) (m c : Nat) (hm : cs.length = m) (hx : a.eval x = .slice A m c) (hr : RdC w A cs) (hn : m ≤ 1000) (hbase : base ≤ w.heap.size)
    (h : ∀ v' w', w'.ownsRow base 3 1 v' m (icells cs) → w.grownBy w' v.ownBlock → wpList Try.prog ops Q rest (a.put o.dst v') w') : wpList Try.prog ops Q (o :: rest) a w := by
  subst hm
  refine wpList_plain hgd fun K hK => ?_
  obtain ⟨i0, hi, hz0, hz1, hz2⟩ := info_parts i3
  have main : ∃ v' w', (Builtin.append_ #[22, 22] o.type #[v, .slice A cs.length c]).run Try.prog w = .ok v' w' ∧ w'.ownsRow base 3 1 v' cs.length (icells cs) ∧ w.grownBy w' v.ownBlock := by
    rcases A with _ | ad
    · have hl : cs.length = 0 := by
        rcases Nat.eq_zero_or_pos cs.length with h0 | h0
        · exact h0
        · obtain ⟨_, _, e, _⟩ := hr.1 h0
          cases e
      have hcs : cs = [] := List.eq_nil_of_length_eq_zero hl
      subst hcs
      refine ⟨v, w, ?_, hown, World.grownBy.refl w _⟩
      rcases hown.2 with ⟨rfl, _⟩ | ⟨g, cap, cur, rfl, _, _, hnc, _⟩
      · simp [Builtin.append_, run_underlying und22b, sizeOf, typeInfo, hi, Builtin.lenOf, Builtin.firstCells]
      · simp [Builtin.append_, run_underlying und22b, sizeOf, typeInfo, hi, Builtin.lenOf, Builtin.firstCells, hnc, storeCells]
    · obtain ⟨v', w', hrun, h2, h3, _, _⟩ := run_append_own_at (P := Try.prog) w base 22 o.type 3 i0 _ 1 8 und22b hi hz0 hz1 hz2 rfl (by decide) v 0 [] hown ad cs.length c (icells cs) (by unfold icells; simp) (fun j u hu => by
        have hj : j < cs.length := by
          have := (List.getElem?_eq_some_iff.1 hu).1
          unfold icells at this
          simpa using this
        obtain ⟨b, off, e, _, hc⟩ := hr.1 (by omega)
        cases e
        rw [Addr.add_lit, hc j hj]
        unfold icells at hu
        rw [List.getElem?_map, List.getElem?_eq_getElem hj] at hu
        rw [List.getD_eq_getElem?_getD, List.getElem?_eq_getElem hj]
        exact hu) (fun u hu => by
        unfold icells at hu
        obtain ⟨y, _, rfl⟩ := List.mem_map.1 hu
        rfl) (by unfold maxLen; omega) (by omega) hbase
      rw [Nat.zero_add] at h2
      exact ⟨v', w', hrun, h2, h3⟩
  obtain ⟨v', w', hrun, h2, h3⟩ := main
  unfold Oper.wp execOp
  simp only [ho, resolve, invoke, builtin, Sem.run_bind, Sem.run_pure, Result.andThen_ok, List.map_toArray, List.map_cons, List.map_nil, hs, hx, hrun]
  exact hK _ _ (h v' w' h2 h3)
theorem rd_of_row {w : World} {B n c : Nat} {A : Option Addr} {cs : List Int} (h : w.ownsRow B 3 1 (.slice A n c) n (icells cs)) (hn : cs.length = n) (hb : ∀ x ∈ cs, -9223372036854775808 ≤ x ∧ x < 9223372036854775808) : RdC w A cs := by
  refine ⟨fun hl => ?_, hb⟩
  obtain ⟨g, rfl⟩ : ∃ g, A = some ⟨g, 0, none⟩ := by
    rcases h.2 with ⟨_, h1⟩ | ⟨g, c, cur, h0, _⟩
    · omega
    · cases h0; exact ⟨g, rfl⟩
  obtain ⟨gl, _, gc, _, _⟩ := row_cells (row_base h (Nat.zero_le _))
  refine ⟨g, 0, rfl, gl, fun i hi => ?_⟩
  rw [Nat.zero_add]
  refine gc i _ ?_
  unfold icells
  rw [List.getElem?_map, List.getElem?_eq_getElem hi, List.getD_eq_getElem?_getD, List.getElem?_eq_getElem hi]
  rfl
set_option maxRecDepth 100000 in
set_option maxHeartbeats 8000000 in
theorem play_crash (L : Lay) (s : DS) (o : Oq) (b : Nat) (v : Rv) (w : World) (hd : DAt w L s) (hr : RefAt w b v s) (j : Jn s) (hs : s.steps < 1000000) (hn : okN o.nm) (hnn : -9223372036854775808 ≤ o.n ∧ o.n < 9223372036854775808) (hk : o.k = 8) (hA : RdC w o.A o.cs) (hl : o.cs.length ≤ 300) (hoff : 0 < o.cs.length → ∀ a, o.A = some a → ¬ Foot L s a.block ∧ a.block ≠ b) :
    Calls Try.prog 25 #[dP L, ptrV b, opV o] w (PlayR w L s b (s.play o)) := by
  have hE : s.play o = s.crash o.cs := by unfold DS.play; rw [if_neg (by rw [hk]; decide), if_neg (by rw [hk]; decide), if_neg (by rw [hk]; decide), if_neg (by rw [hk]; decide), if_neg (by rw [hk]; decide), if_neg (by rw [hk]; decide), if_neg (by rw [hk]; decide), if_pos hk]
  rw [hE]
  unfold opV
  rw [hk]
  obtain ⟨k, nm, dt, nn, A, cs, c⟩ := o
  dsimp only at *
  have HB : Hid (Below w.heap.size w (w.alloc (Obj.cells #[.int .i64 8, .string nm, .string dt, .int .i64 nn, .slice A cs.length c] 38))) := Lib.hid (bl_alloc (Below.refl w.heap.size w) _)
  have HX := Lib.hid (new_heap w (Obj.cells #[.int .i64 8, .string nm, .string dt, .int .i64 nn, .slice A cs.length c] 38))
  have D0 := Lib.hid (hd.below HB.out)
  have R0 := Lib.hid (hr.below HB.out)
  have A0 := Lib.hid (hA.below HB.out)
  have HOF := Lib.hid hoff
  have J := Lib.hid j
  obtain ⟨m, hm⟩ : ∃ m, cs.length = m := ⟨_, rfl⟩
  rw [hm]
  rw [hm] at HX HB D0 R0 A0 hl
  have HM := Lib.hid hm
  clear hE hd hr hA hoff hk j hm
  have HLB : Hid (m ≤ 1000) := Lib.hid (by omega)
  have k0 : Below (w.alloc (Obj.cells #[.int .i64 8, .string nm, .string dt, .int .i64 nn, .slice A m c] 38)).heap.size (w.alloc (Obj.cells #[.int .i64 8, .string nm, .string dt, .int .i64 nn, .slice A m c] 38)) ((w.alloc (Obj.cells #[.int .i64 8, .string nm, .string dt, .int .i64 nn, .slice A m c] 38)).alloc (Obj.cells #[] 3)) := bl_alloc (Below.refl _ _) _
  have K0 := Lib.hid k0
  have HWS : Hid ((w.alloc (Obj.cells #[.int .i64 8, .string nm, .string dt, .int .i64 nn, .slice A m c] 38)).heap.size = w.heap.size + 1) := Lib.hid (by simp)
  have HE0 : Hid (((w.alloc (Obj.cells #[.int .i64 8, .string nm, .string dt, .int .i64 nn, .slice A m c] 38)).alloc (Obj.cells #[] 3)).ownsRow (w.heap.size + 1) 3 1 (.slice (some ⟨w.heap.size + 1, 0, none⟩) 0 0) 0 []) := Lib.hid (em_own (by rw [← HWS.out]; exact new_heap _ _) (Nat.le_refl _))
  have HSZ : Hid (w.heap.size + 1 ≤ ((w.alloc (Obj.cells #[.int .i64 8, .string nm, .string dt, .int .i64 nn, .slice A m c] 38)).alloc (Obj.cells #[] 3)).heap.size) := Lib.hid (by rw [← HWS.out]; exact k0.size)
  have A1 := Lib.hid (A0.out.below k0)
  have HGB : Hid (∀ z, ((w.alloc (Obj.cells #[.int .i64 8, .string nm, .string dt, .int .i64 nn, .slice A m c] 38)).alloc (Obj.cells #[] 3)).grownBy z (Value.slice (some ⟨w.heap.size + 1, 0, none⟩) 0 0).ownBlock → Below (w.alloc (Obj.cells #[.int .i64 8, .string nm, .string dt, .int .i64 nn, .slice A m c] 38)).heap.size (w.alloc (Obj.cells #[.int .i64 8, .string nm, .string dt, .int .i64 nn, .slice A m c] 38)) z) := Lib.hid (fun z g => by
    have h1 := HE0.out
    rw [← HWS.out] at h1 g
    exact bl_grow K0.out K0.out.size h1 g)
  clear k0
  unfold dP ptrV at *
  go_enter Try.func25, Try.ntmps25
  go_wp2_with (at_builtin; refine wpList_append_cs _ rfl (.tmp 101) (.tmp 103) rfl (w.heap.size + 1) (.slice (some ⟨w.heap.size + 1, 0, none⟩) 0 0) rfl HE0.out A cs m c HM.out rfl A1.out HLB.out HSZ.out ?_; intro v7 w7 hown7 hgr7; have hb7 := HGB.out w7 hgr7; obtain ⟨A7, c7, rfl, hc7, hg7⟩ := own_slice hown7)
  generalize (w.alloc (Obj.cells #[.int .i64 8, .string nm, .string dt, .int .i64 nn, .slice A m c] 38)) = W at *
  have D7 := Lib.hid (D0.out.below hb7)
  have R7 := Lib.hid (R0.out.below hb7)
  have B7 := Lib.hid (HB.out.trans (hb7.mono HB.out.size))
  have X7 : Hid (w7.heap[w.heap.size]? = some (Obj.cells #[.int .i64 8, .string nm, .string dt, .int .i64 nn, .slice A m c] 38)) := Lib.hid ((hb7.block _ (Array.getElem?_eq_some_iff.1 HX.out).1).trans HX.out)
  have A7r := Lib.hid (A0.out.below hb7)
  have O7 := Lib.hid hown7
  have HOB : Hid (∀ g, (Value.slice A7 m c7).ownBlock = some g → ¬ Foot L s g ∧ g ≠ b) := Lib.hid (fun g hg => by
    obtain ⟨_, cur, hc⟩ := own_blk hown7 hg
    refine ⟨foot_type D7.out hc (by decide) (by decide) (by decide), fun e => ?_⟩
    have h1 := R7.out.1
    rw [← e, hc] at h1
    cases h1)
  have HCR := Lib.hid (crash_any L s cs A7 c7 w7 D7.out J.out.iv.ok J.out.iv.sk (rd_of_row hown7 HM.out A0.out.2) (by rw [HM.out]; exact hc7) (fun hp a ha => by
    subst ha
    obtain ⟨g, hg⟩ := hg7.resolve_left (by rw [HM.out] at hp; omega)
    cases hg
    exact ⟨(row_cells (row_base hown7 (Nat.zero_le _))).1, (HOB.out g rfl).1⟩))
  rw [HM.out] at HCR
  have HRC : Hid (∀ w8, DAt w8 L s → True) := Lib.hid (fun _ _ => trivial)
  unfold dP at HCR
  clear hown7 hgr7 hb7 HGB HE0 HSZ A1 K0 HWS HX HB
  go_wp2_with (fail)
  refine HCR.out.mono ?_
  rintro r w8 ⟨rfl, L2, e2, d2, k2, f2⟩
  have D2 := Lib.hid d2
  have K2 := Lib.hid k2
  have E2 := Lib.hid e2
  have F2 := Lib.hid f2
  have R8 := Lib.hid (R7.out.off D7.out k2)
  have A8 := Lib.hid (A7r.out.kw k2 (fun hp a ha => (HOF.out hp a ha).1))
  have X8 := Lib.hid (box_off X7.out D7.out k2)
  have O8 := Lib.hid (own_kw O7.out k2 (fun g hg => (HOB.out g hg).1))
  have x4 := cell_of X8.out 4
  have xl := (Array.getElem?_eq_some_iff.1 X8.out).1
  simp only [List.getElem?_toArray, List.getElem?_cons_zero, List.getElem?_cons_succ] at x4
  have HRR := Lib.hid (rcrash_any b v s cs A c w8 R8.out J.out.iv J.out.fl D7.out.fa J.out.wk A8.out (fun hp a ha => (HOF.out hp a ha).2))
  rw [HM.out] at HRR
  unfold ptrV at HRR
  clear d2 k2 e2 f2 HCR
  go_wp2_with (fail)
  refine HRR.out.mono ?_
  rintro r w9 ⟨rfl, ⟨v9, r9⟩, k3⟩
  have R9 := Lib.hid r9
  have K3 := Lib.hid k3
  have A9 := Lib.hid (A8.out.kw k3 (fun hp a ha => (HOF.out hp a ha).2))
  have X9 := Lib.hid (box_off2 X8.out R8.out k3)
  have O9 := Lib.hid (own_kw O8.out k3 (fun g hg => (HOB.out g hg).2))
  have HPL : Hid (∀ r, r = .returned (.bool true) → PlayR w L s b (s.crash cs) r w9) := Lib.hid (fun r hr => play_end B7.out R7.out D7.out E2.out D2.out K2.out F2.out R9.out K3.out hr)
  clear r9 k3 x4 xl HRR HRC
  go_wp2_with (fail)
  go_loopw [8] (fun vi wr => ∃ i : Nat, i ≤ m ∧ vi = .int .i64 i ∧ Below w9.heap.size w9 wr) (fun i _ => m - (intOf i).toNat)
  case atStart => exact ⟨0, Nat.zero_le _, rfl, Below.refl _ _⟩
  case round =>
    obtain ⟨i, hin, rfl, hbl⟩ := hrel
    have HBL := Lib.hid hbl
    clear hbl
    by_cases hi : i < m
    · have hi0 : (0 : Int) ≤ (i : Int) := by omega
      have hi1 : (i : Int) < (m : Int) := by omega
      obtain ⟨g, rfl⟩ : ∃ g, A7 = some ⟨g, 0, none⟩ := hg7.resolve_left (by omega)
      obtain ⟨gl, _, gc, _, _⟩ := row_cells (row_base O9.out (Nat.zero_le _))
      have hil : i < cs.length := by rw [HM.out]; exact hi
      have y0 := gc i (.int .i64 (cs.getD i 0)) (by
        unfold icells
        rw [List.getElem?_map, List.getElem?_eq_getElem hil, List.getD_eq_getElem?_getD, List.getElem?_eq_getElem hil]
        rfl)
      obtain ⟨ba, off, rfl, hba, hca⟩ := A9.out.1 (by omega)
      have z0 := hca i hil
      obtain ⟨q, hq⟩ : ∃ q, cs.getD i 0 = q := ⟨_, rfl⟩
      rw [hq] at y0 z0
      have x4 := cell_of X9.out 4
      simp only [List.getElem?_toArray, List.getElem?_cons_zero, List.getElem?_cons_succ] at x4
      have xl := (Array.getElem?_eq_some_iff.1 X9.out).1
      have y1 := ext_cell ((HBL.out.cell (p := ⟨g, i, none⟩) gl).trans y0)
      have z1 := ext_cell ((HBL.out.cell (p := ⟨ba, off + i, none⟩) hba).trans z0)
      have x5 := ext_cell ((HBL.out.cell (p := ⟨w.heap.size, 4, none⟩) xl).trans x4)
      clear gc hca hq x4 y0 z0 hil
      go_wp2_with (fail)
      refine wp_region_ext (by kernel_rfl) (by kernel_rfl) ?_
      repeat (go_big_quiet_step (fail))
      refine wpQuiet_nil ?_
      rintro wz ⟨⟨_, hb8⟩, rfl⟩
      have HB8 := Lib.hid (HBL.out.trans (hb8.mono HBL.out.size))
      clear hb8 x5 y1 z1
      go_wp2_with (fail)
      exact ⟨⟨i + 1, by omega, by push_cast; rfl, HB8.out⟩, by simp [intOf]; omega⟩
    · have hi1 : ¬ (i : Int) < (m : Int) := by omega
      go_wp2_with (fail)
      go_ret
      exact (HPL.out _ rfl).then HBL.out rfl
end Go.Proofs.Ytjgiohlkpenipaa
