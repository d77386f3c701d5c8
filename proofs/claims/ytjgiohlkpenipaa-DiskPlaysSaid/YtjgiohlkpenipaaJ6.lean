/- Contract of the reference's change. Conditions: as each theorem states them. -/
import Derived.Test.YtjgiohlkpenipaaJ3
namespace Go.Proofs.Ytjgiohlkpenipaa
open Go.RowKit Go.Maps
set_option linter.unusedVariables false
set_option linter.unusedSimpArgs false

/-- The reference's disk with some numbers of it written. -/
theorem RefAt.set1 {w : World} {b : Nat} {v : Rv} {s s' : DS} (h : RefAt w b v s) (i : Nat) (u : Value) (hc : (rcells s v).setIfInBounds i u = rcells s' v) (hf : s'.files = s.files) (hd : s'.dir = s.dir) (hk : s'.kept = s.kept) (hw : s'.waits = s.waits) : RefAt (w.setCell ⟨b, i, none⟩ u) b v s' := by
  have k : Kw (fun x => x = b) w (w.setCell ⟨b, i, none⟩ u) := (Kw.refl (fun x => x = b) w).setCell (p := ⟨b, i, none⟩) rfl u
  have hr := h.2.kw k (fun x e => ⟨rcells s v, (0, 0), by rw [e]; exact h.1⟩)
  refine ⟨?_, ?_⟩
  · have := set_heap (i := i) (v := u) h.1
    rw [hc] at this
    exact this
  · obtain ⟨a, b, c, d⟩ := hr
    exact ⟨by rw [hf]; exact a, by rw [hd]; exact b, by rw [hk]; exact c, by rw [hw]; exact d⟩
set_option maxRecDepth 100000 in
set_option maxHeartbeats 4000000 in
theorem rstep_any (b : Nat) (v : Rv) (s : DS) (w : World) (h : RefAt w b v s) (hst : s.steps ≤ 1000000) (hfu : s.fuse < 9223372036854775808) :
    Calls Try.prog 74 #[ptrV b] w fun e w' => e = .returned (.int .i64 (if s.fuse = 1 then 9 else 0)) ∧ RefAt w' b v (if s.fuse = 1 then s.gone else s.tick) ∧ Kw (fun x => x = b) w w' := by
  have H := Lib.hid h
  obtain ⟨_, a1, a2, a3, _⟩ := h.c
  have hl := h.lt
  have f1 := h.fz 1
  have f2 := h.fz 2
  have f3 := h.fz 3
  clear h
  by_cases hf1 : s.fuse = 1
  · rw [if_pos hf1, if_pos hf1]
    have HE : Hid (RefAt ((w.setCell ⟨b, 2, none⟩ (.int .i64 0)).setCell ⟨b, 3, none⟩ (.bool true)) b v s.gone) := Lib.hid
      ((H.out.set1 (s' := { s with fuse := 0 }) 2 (.int .i64 0) rfl rfl rfl rfl rfl).set1 (s' := s.gone) 3 (.bool true) rfl rfl rfl rfl rfl)
    have HK : Hid (Kw (fun x => x = b) w ((w.setCell ⟨b, 2, none⟩ (.int .i64 0)).setCell ⟨b, 3, none⟩ (.bool true))) := Lib.hid
      (((Kw.refl (fun x => x = b) w).setCell (p := ⟨b, 2, none⟩) rfl _).setCell (p := ⟨b, 3, none⟩) rfl _)
    rw [hf1] at a2
    have a2 : w.cell? ⟨b, 2, none⟩ = some (.int .i64 1) := a2
    clear hf1
    unfold ptrV
    go_enter Try.func74, Try.ntmps74
    go_wp2_with (fail)
    go_ret
    exact ⟨rfl, HE.out, HK.out⟩
  · rw [if_neg hf1, if_neg hf1]
    by_cases hf0 : 0 < s.fuse
    · obtain ⟨f, hf⟩ : ∃ f, s.fuse = f := ⟨_, rfl⟩
      have g1 : (0 : Int) < (f : Int) := by omega
      have g2 : ¬ (f : Int) = 1 := by omega
      have g3 : (f : Int) - 1 < 9223372036854775808 := by omega
      have g4 : -9223372036854775808 ≤ (f : Int) - 1 := by omega
      have HE : Hid (RefAt ((w.setCell ⟨b, 2, none⟩ (.int .i64 ((f : Int) - 1))).setCell ⟨b, 1, none⟩ (.int .i64 ((s.steps : Int) + 1))) b v s.tick) := Lib.hid (by
        have e1 : ((s.fuse - 1 : Nat) : Int) = (f : Int) - 1 := by omega
        refine (H.out.set1 (s' := { s with fuse := s.fuse - 1 }) 2 _ ?_ rfl rfl rfl rfl).set1 (s' := s.tick) 1 _ ?_ rfl rfl rfl rfl
        · rw [← e1]; rfl
        · rw [show ((s.steps : Int) + 1) = ((s.steps + 1 : Nat) : Int) from by push_cast; rfl]; rfl)
      have HK : Hid (Kw (fun x => x = b) w ((w.setCell ⟨b, 2, none⟩ (.int .i64 ((f : Int) - 1))).setCell ⟨b, 1, none⟩ (.int .i64 ((s.steps : Int) + 1)))) := Lib.hid
        (((Kw.refl (fun x => x = b) w).setCell (p := ⟨b, 2, none⟩) rfl _).setCell (p := ⟨b, 1, none⟩) rfl _)
      rw [hf] at a2
      clear hf1 hf0 hf
      unfold ptrV
      go_enter Try.func74, Try.ntmps74
      go_wp2_with (fail)
      go_ret
      exact ⟨rfl, HE.out, HK.out⟩
    · have hz : s.fuse = 0 := by omega
      have HE : Hid (RefAt (w.setCell ⟨b, 1, none⟩ (.int .i64 ((s.steps : Int) + 1))) b v s.tick) := Lib.hid (by
        refine H.out.set1 (s' := s.tick) 1 _ ?_ rfl rfl rfl rfl
        rw [show ((s.steps : Int) + 1) = ((s.steps + 1 : Nat) : Int) from by push_cast; rfl]
        unfold DS.tick rcells
        rw [hz]
        rfl)
      have HK : Hid (Kw (fun x => x = b) w (w.setCell ⟨b, 1, none⟩ (.int .i64 ((s.steps : Int) + 1)))) := Lib.hid ((Kw.refl (fun x => x = b) w).setCell (p := ⟨b, 1, none⟩) rfl _)
      rw [hz] at a2
      have a2 : w.cell? ⟨b, 2, none⟩ = some (.int .i64 0) := a2
      clear hf1 hf0 hz
      unfold ptrV
      go_enter Try.func74, Try.ntmps74
      go_wp2_with (fail)
      go_ret
      exact ⟨rfl, HE.out, HK.out⟩
end Go.Proofs.Ytjgiohlkpenipaa
namespace Go.Proofs.Ytjgiohlkpenipaa
open Go.RowKit Go.Maps
set_option linter.unusedVariables false
set_option linter.unusedSimpArgs false

def rchV (c : Ch) : Value := .agg #[.int .i64 (kindC c), .string c.frm, .string c.to, .int .i64 c.fi]
set_option maxRecDepth 100000 in
set_option maxHeartbeats 4000000 in
theorem done_any (v : Value) (l : Dir) (c : Ch) (w : World) (h : w.ownsRow 0 104 2 v l.length (ecells l)) (hl : l.length ≤ 1000001) (hk : c.frm = ByteArray.empty → c.to ≠ ByteArray.empty) :
    Calls Try.prog 77 #[v, rchV c] w fun e w' => ∃ v', e = .returned v' ∧ w'.ownsRow w.heap.size 104 2 v' (alt l c).length (ecells (alt l c)) ∧ Below w.heap.size w w' := by
  have hb0 := bl_alloc (Below.refl w.heap.size w) (Obj.cells #[.int .i64 (kindC c), .string c.frm, .string c.to, .int .i64 c.fi] 100)
  have ho0 := own_kw h (Kw.ofBelow (S := fun _ => False) hb0) (fun _ _ e => e)
  have HB0 := Lib.hid hb0
  have HWD := Lib.hid (fun W (k : Below w.heap.size w W) => with_any v l c.to c.fi W (own_kw h (Kw.ofBelow (S := fun _ => False) k) (fun _ _ e => e)) hl)
  have HWO := Lib.hid (fun W (k : Below w.heap.size w W) => without_any v l c.frm W (own_kw h (Kw.ofBelow (S := fun _ => False) k) (fun _ _ e => e)) hl)
  have HW2 := Lib.hid (fun W v2 (h : W.ownsRow 0 104 2 v2 (wo l c.frm).length (ecells (wo l c.frm))) => with_any v2 (wo l c.frm) c.to c.fi W h (by have := wo_le l c.frm; omega))
  obtain ⟨A, cp, rfl, _, _⟩ := own_slice h
  clear h ho0 hb0
  unfold rchV
  by_cases hf : c.frm = ByteArray.empty
  · have ha : alt l c = wi l c.to c.fi := by
      unfold alt
      dsimp only
      rw [if_pos hf, if_neg (hk hf)]
    have hkd : kindC c = 1 := by unfold kindC; rw [if_pos hf]
    rw [ha]
    rw [hkd] at HB0 ⊢
    obtain ⟨frm, to, fi⟩ := c
    dsimp only at *
    clear hf hk ha hkd
    go_enter Try.func77, Try.ntmps77
    go_wp2_with (fail)
    refine (HWD.out _ HB0.out).mono ?_
    rintro r w2 ⟨v2, rfl, h2, hb2⟩
    have HO2 := Lib.hid h2
    have HB2 := Lib.hid hb2
    clear h2 hb2
    go_wp2_with (fail)
    go_ret
    have := HB0.out.size
    exact ⟨v2, rfl, row_base HO2.out this, HB0.out.trans (HB2.out.mono this)⟩
  · by_cases ht : c.to = ByteArray.empty
    · have ha : alt l c = wo l c.frm := by
        unfold alt
        dsimp only
        rw [if_neg hf, if_pos ht]
      have hkd : kindC c = 3 := by unfold kindC; rw [if_neg hf, if_pos ht]
      rw [ha]
      rw [hkd] at HB0 ⊢
      obtain ⟨frm, to, fi⟩ := c
      dsimp only at *
      clear hf ht hk ha hkd
      go_enter Try.func77, Try.ntmps77
      go_wp2_with (fail)
      refine (HWO.out _ HB0.out).mono ?_
      rintro r w2 ⟨v2, rfl, h2, hb2⟩
      have HO2 := Lib.hid h2
      have HB2 := Lib.hid hb2
      clear h2 hb2
      go_wp2_with (fail)
      go_ret
      have := HB0.out.size
      exact ⟨v2, rfl, row_base HO2.out this, HB0.out.trans (HB2.out.mono this)⟩
    · have ha : alt l c = wi (wo l c.frm) c.to c.fi := by
        unfold alt
        dsimp only
        rw [if_neg hf, if_neg ht]
      have hkd : kindC c = 2 := by unfold kindC; rw [if_neg hf, if_neg ht]
      rw [ha]
      rw [hkd] at HB0 ⊢
      obtain ⟨frm, to, fi⟩ := c
      dsimp only at *
      clear hf ht hk ha hkd
      have hnb := new_heap w (Obj.cells #[.int .i64 2, .string frm, .string to, .int .i64 fi] 100)
      have HD0 : Hid (Below w.heap.size w (w.alloc (Obj.cells #[.int .i64 2, .string frm, .string to, .int .i64 fi] 100)).drew) := Lib.hid HB0.out.drew
      have HKP : Hid (∀ W, Below (w.alloc (Obj.cells #[.int .i64 2, .string frm, .string to, .int .i64 fi] 100)).drew.heap.size (w.alloc (Obj.cells #[.int .i64 2, .string frm, .string to, .int .i64 fi] 100)).drew W → W.cell? ⟨w.heap.size, 1, none⟩ = some (.string frm) ∧ W.cell? ⟨w.heap.size, 2, none⟩ = some (.string to) ∧ W.cell? ⟨w.heap.size, 3, none⟩ = some (.int .i64 fi)) := Lib.hid (fun W k => by
        have hlt : w.heap.size < (w.alloc (Obj.cells #[.int .i64 2, .string frm, .string to, .int .i64 fi] 100)).drew.heap.size := by simp [World.drew]
        have e := (k.block w.heap.size hlt).trans hnb
        exact ⟨cell_of e 1, cell_of e 2, cell_of e 3⟩)
      clear hnb
      go_enter Try.func77, Try.ntmps77
      go_wp2_with (fail)
      generalize (w.alloc (Obj.cells #[.int .i64 2, .string frm, .string to, .int .i64 fi] 100)) = W at *
      obtain ⟨x1, x2, x3⟩ := HKP.out W.drew (Below.refl _ _)
      go_region_held3 (fun z => z.cell? ⟨w.heap.size, 1, none⟩ = some (.string frm) ∧ z.cell? ⟨w.heap.size, 2, none⟩ = some (.string to) ∧ z.cell? ⟨w.heap.size, 3, none⟩ = some (.int .i64 fi))
        (first | exact ⟨x1, x2, x3⟩ | exact HKP.out _ hb2 | exact HKP.out _ hb23)
        ((first
          | (go_at_call 81; refine (HW2.out _ _ (row_base h2 (Nat.zero_le _))).mono ?_; rintro r w3 ⟨v3, rfl, h3, hb3⟩; have hb23 := hb2.trans (hb3.mono hb2.size))
          | (go_at_call 82; refine (HWO.out _ HD0.out).mono ?_; rintro r w2 ⟨v2, rfl, h2, hb2⟩)))
      rename_i hHeld
      clear hHeld
      have HO3 := Lib.hid h3
      have HB3 := Lib.hid hb3
      have HB2 := Lib.hid hb2
      clear h2 h3 hb2 hb3 hb23 x1 x2 x3
      go_wp2_with (fail)
      go_ret
      have s0 := HD0.out.size
      have s2 := HB2.out.size
      exact ⟨v3, rfl, row_base HO3.out (by omega), HD0.out.trans ((HB2.out.trans (HB3.out.mono s2)).mono s0)⟩
end Go.Proofs.Ytjgiohlkpenipaa
namespace Go.Proofs.Ytjgiohlkpenipaa
open Go.RowKit Go.Maps
set_option linter.unusedVariables false
set_option linter.unusedSimpArgs false

/-- append of a slice that reads as news, in a region that draws. -/
theorem step_append_g {ops : Array Oper} {o : Oper} {a : Act} {K : Act → World → Prop} {Q : Exit → Act → World → Prop} {E : Prop} (w : World) (hgd : o.guard = none) (s x : Operand) (t e sz bytes : Nat) (z : Value)
    (hu : Try.prog.underlying t = some (.slice e)) (hi : (Try.prog.info? e).map (fun i => (i.zero, i.size, i.bytes)) = some (some z, sz, bytes)) (hz : z.cells.size = sz) (hsz : 0 < sz) (hby : bytes ≤ 48)
    (ho : o.op = .call { callee := .builtin .append, args := #[s, x], argTypes := #[t, t] }) (base n : Nat) (v : Value) (xs : List Value) (hs : a.eval s = v) (hown : w.ownsRow base e sz v n xs)
    (g m c : Nat) (news : List Value) (hx : a.eval x = .slice (some ⟨g, 0, none⟩) m c) (hl : news.length = m * sz) (hr : ∀ j u, news[j]? = some u → w.cell? ⟨g, j, none⟩ = some u) (h1 : ∀ u ∈ news, u.oneCell' = true) (hn : n + m ≤ 4000000) (hbase : base ≤ w.heap.size)
    (h : ∀ v' w', w'.ownsRow base e sz v' (n + m) (xs ++ news) → w.grownBy w' v.ownBlock → K (a.put o.dst v') w') :
    if Region.wanted o (yielded ops a.tmps) = true then Oper.wp Try.prog o a w K Q else E := by
  have hw : Region.wanted o (yielded ops a.tmps) = true := by simp [Region.wanted, hgd]
  rw [if_pos hw]
  obtain ⟨i0, hi, hz0, hz1, hz2⟩ := info_parts hi
  have hbt : (n + m) * bytes ≤ 140737488355328 := by
    have : (n + m) * bytes ≤ 4000000 * 48 := Nat.mul_le_mul hn hby
    omega
  obtain ⟨v', w', hr2, h2, h3, _, h5⟩ := run_append_own_at (P := Try.prog) w base t o.type e i0 z sz bytes hu hi hz0 hz1 hz2 hz hsz v n xs hown ⟨g, 0, none⟩ m c news hl (fun j u hj => by rw [Addr.add_lit, Nat.zero_add]; exact hr j u hj) h1 (by unfold maxLen; omega) hbt hbase
  unfold Oper.wp execOp
  simp only [ho, resolve, invoke, builtin, Sem.run_bind, Sem.run_pure, Result.andThen_ok, List.map_toArray, List.map_cons, List.map_nil, hs, hx, hr2]
  exact h v' w' h2 h3
theorem ccells_one (l : List Ch) : ∀ u ∈ ccells l, u.oneCell' = true := by
  intro u hu
  obtain ⟨p, _, hp⟩ := List.mem_flatMap.1 hu
  simp only [List.mem_cons, List.not_mem_nil, or_false] at hp
  rcases hp with rfl | rfl | rfl | rfl <;> rfl
theorem ccells_app (l m : List Ch) : ccells (l ++ m) = ccells l ++ ccells m := by simp [ccells]
theorem fcells_one (l : List Fl) : ∀ u ∈ fcells l, u.oneCell' = true := by
  intro u hu
  obtain ⟨p, _, hp⟩ := List.mem_flatMap.1 hu
  simp only [List.mem_cons, List.not_mem_nil, or_false] at hp
  rcases hp with rfl | rfl <;> rfl
theorem fcells_app (l m : List Fl) : fcells (l ++ m) = fcells l ++ fcells m := by simp [fcells]
/-- With other rows, and the cells that name them. -/
theorem RefAt.to {w w' : World} {b : Nat} {v v' : Rv} {s s' : DS} (hc : w'.heap[b]? = some (Obj.cells (rcells s' v') 52)) (hr : RowsAt w' v' s') : RefAt w' b v' s' := ⟨hc, hr⟩
end Go.Proofs.Ytjgiohlkpenipaa
