/- Contract of change.alter. Conditions: as each theorem states them. -/
import Derived.Test.YtjgiohlkpenipaaA2
namespace Go.Proofs.Ytjgiohlkpenipaa
open Go.RowKit Go.Maps
set_option linter.unusedVariables false
set_option linter.unusedSimpArgs false

theorem wpList_mapUpdate_run {P : Program} {w w' : World} {ops : Array Oper} {rest : List Oper} {o : Oper} {a : Act} {Q : Exit → Act → World → Prop} (hg : o.guard = none) (m x v : Operand) (t : TypeId) (hop : o.op = Op.mapUpdate t m x v) (mv kv vv : Value) (hm : a.eval m = mv) (hx : a.eval x = kv) (hv : a.eval v = vv)
    (hd : o.dst = none) (hrun : (Instr.mapUpdate t mv kv vv).run P w = .ok () w') (hK : wpList P ops Q rest a w') : wpList P ops Q (o :: rest) a w := by
  have hK : wpList P ops Q rest (a.put o.dst undef) w' := by rw [hd]; exact hK
  refine wpList_plain hg fun K' hK' => ?_
  unfold Oper.wp
  simp [execOp, hop, hm, hx, hv, hrun, Result.andThen]
  exact hK' _ _ hK
theorem wpList_delete_run {P : Program} {w w' : World} {ops : Array Oper} {rest : List Oper} {o : Oper} {a : Act} {Q : Exit → Act → World → Prop} (hg : o.guard = none) (m x : Operand) (t k : TypeId) (hop : o.op = Op.call { callee := Callee.builtin Builtin.delete, args := #[m, x], argTypes := #[t, k] }) (mv kv : Value) (hm : a.eval m = mv) (hx : a.eval x = kv)
    (hd : o.dst = none) (hrun : (Builtin.delete_ #[t, k] o.type #[mv, kv]).run P w = .ok (.tuple #[]) w') (hK : wpList P ops Q rest a w') : wpList P ops Q (o :: rest) a w := by
  have hK : wpList P ops Q rest (a.put o.dst (.tuple #[])) w' := by rw [hd]; exact hK
  refine wpList_plain hg fun K' hK' => ?_
  unfold Oper.wp
  simp [execOp, hop, resolve, invoke, builtin, hm, hx, hrun, Result.andThen]
  exact hK' _ _ hK
/-- What alter keeps, and what it makes of the map. -/
def AltR (w : World) (m : Nat) (l : Dir) (bk : Nat → Nat) (c : Ch) (e : Ending) (w' : World) : Prop := e = .returned (.tuple #[]) ∧ (∃ D', MapAt w' m (alt l c) bk D') ∧ Kw (fun b => b = m) w w'
theorem new_heap (w : World) (o : Obj) : (w.alloc o).heap[w.heap.size]? = some o := (MapKept.heap_alloc w o).1
theorem cell_of {w : World} {b : Nat} {cs : Array Value} {t : TypeId} {fz : Nat × Nat} (h : w.heap[b]? = some (Obj.cells cs t fz)) (i : Nat) : w.cell? ⟨b, i, none⟩ = cs[i]? := by simp [World.cell?, h]
theorem froz_of {w : World} {b : Nat} {cs : Array Value} {t : TypeId} (h : w.heap[b]? = some (Obj.cells cs t)) (i : Nat) : w.frozen? ⟨b, i, none⟩ = false := by simp [World.frozen?, h]
theorem str_ne {x : ByteArray} (h : x ≠ ByteArray.empty) : x.toList.isEmpty = false := by
  rw [ByteArray.toList_eq, Bool.eq_false_iff]
  intro e
  rw [List.isEmpty_iff] at e
  apply h
  cases x
  simp at e
  subst e
  rfl
set_option maxRecDepth 100000 in
set_option maxHeartbeats 1000000 in
theorem alter_00 (c : Ch) (m : Nat) (l : Dir) (bk : Nat → Nat) (D : DataW Unit) (w : World) (h : MapAt w m l bk D) (hf : okN c.frm) (ht : okN c.to) (hL : l.length < maxLen) (hc : c.frm = ByteArray.empty ∧ c.to = ByteArray.empty) :
    Calls Try.prog 44 #[chV bk c, .map (some m)] w (AltR w m l bk c) := by
  have hl := h.lt
  have hb0 := bl_alloc (Below.refl w.heap.size w) (Obj.cells #[.string c.frm, .string c.to, chP bk c] 68)
  have hk0 : Kw (fun b => b = m) w (w.alloc (Obj.cells #[.string c.frm, .string c.to, chP bk c] 68)) := Kw.ofBelow hb0
  have h0 := h.kw (Kw.ofBelow (S := fun _ => False) hb0) (fun h => h)
  have hbx : (w.alloc (Obj.cells #[.string c.frm, .string c.to, chP bk c] 68)).heap[w.heap.size]? = some (Obj.cells #[.string c.frm, .string c.to, chP bk c] 68) := new_heap w _
  have hs0 : (w.alloc (Obj.cells #[.string c.frm, .string c.to, chP bk c] 68)).heap.size = w.heap.size + 1 := by simp
  have hne : w.heap.size ≠ m := by omega
  unfold AltR
  unfold chV
  obtain ⟨frm, to, fi⟩ := c
  dsimp only at *
  obtain ⟨cp, hcp⟩ : ∃ cp, chP bk ⟨frm, to, fi⟩ = cp := ⟨_, rfl⟩
  have HCP := Lib.hid hcp
  rw [hcp] at hb0 hk0 h0 hbx hs0 ⊢
  clear hcp
  go_enter Try.func44, Try.ntmps44
  obtain ⟨hcf, hct⟩ := hc
  have x0 : (w.alloc (Obj.cells #[.string frm, .string to, cp] 68)).cell? ⟨w.heap.size, 0, none⟩ = some (.string frm) := cell_of hbx 0
  have x1 : (w.alloc (Obj.cells #[.string frm, .string to, cp] 68)).cell? ⟨w.heap.size, 1, none⟩ = some (.string to) := cell_of hbx 1
  have x2 : (w.alloc (Obj.cells #[.string frm, .string to, cp] 68)).cell? ⟨w.heap.size, 2, none⟩ = some cp := cell_of hbx 2
  have hlt : w.heap.size < (w.alloc (Obj.cells #[.string frm, .string to, cp] 68)).heap.size := by omega
  subst hcf
  subst hct
  go_wp2_with (fail)
  go_end0
  exact ⟨rfl, ⟨_, h0⟩, hk0⟩
set_option maxRecDepth 100000 in
set_option maxHeartbeats 1000000 in
theorem alter_01 (c : Ch) (m : Nat) (l : Dir) (bk : Nat → Nat) (D : DataW Unit) (w : World) (h : MapAt w m l bk D) (hf : okN c.frm) (ht : okN c.to) (hL : l.length < maxLen) (hc : c.frm = ByteArray.empty ∧ c.to ≠ ByteArray.empty) :
    Calls Try.prog 44 #[chV bk c, .map (some m)] w (AltR w m l bk c) := by
  have hl := h.lt
  have hb0 := bl_alloc (Below.refl w.heap.size w) (Obj.cells #[.string c.frm, .string c.to, chP bk c] 68)
  have hk0 : Kw (fun b => b = m) w (w.alloc (Obj.cells #[.string c.frm, .string c.to, chP bk c] 68)) := Kw.ofBelow hb0
  have h0 := h.kw (Kw.ofBelow (S := fun _ => False) hb0) (fun h => h)
  have hbx : (w.alloc (Obj.cells #[.string c.frm, .string c.to, chP bk c] 68)).heap[w.heap.size]? = some (Obj.cells #[.string c.frm, .string c.to, chP bk c] 68) := new_heap w _
  have hs0 : (w.alloc (Obj.cells #[.string c.frm, .string c.to, chP bk c] 68)).heap.size = w.heap.size + 1 := by simp
  have hne : w.heap.size ≠ m := by omega
  unfold AltR
  unfold chV
  obtain ⟨frm, to, fi⟩ := c
  dsimp only at *
  obtain ⟨cp, hcp⟩ : ∃ cp, chP bk ⟨frm, to, fi⟩ = cp := ⟨_, rfl⟩
  have HCP := Lib.hid hcp
  rw [hcp] at hb0 hk0 h0 hbx hs0 ⊢
  clear hcp
  go_enter Try.func44, Try.ntmps44
  obtain ⟨hcf, hct⟩ := hc
  have x0 : (w.alloc (Obj.cells #[.string frm, .string to, cp] 68)).cell? ⟨w.heap.size, 0, none⟩ = some (.string frm) := cell_of hbx 0
  have x1 : (w.alloc (Obj.cells #[.string frm, .string to, cp] 68)).cell? ⟨w.heap.size, 1, none⟩ = some (.string to) := cell_of hbx 1
  have x2 : (w.alloc (Obj.cells #[.string frm, .string to, cp] 68)).cell? ⟨w.heap.size, 2, none⟩ = some cp := cell_of hbx 2
  have hlt : w.heap.size < (w.alloc (Obj.cells #[.string frm, .string to, cp] 68)).heap.size := by omega
  subst hcf
  have htd := str_ne hct
  have hcpv : cp = ptrV (bk fi) := by rw [← HCP.out]; exact if_neg hct
  subst hcpv
  obtain ⟨w2, D2, hrun, h2, htn⟩ := h0.put ht fi hL
  have HRUN := Lib.hid hrun
  have HK := Lib.hid (hk0.trans (turned_kw (S := fun b => b = m) htn rfl))
  have H2 := Lib.hid h2
  clear h2 htn hrun
  go_wp2_with ((at_mapUpdate; refine wpList_mapUpdate_run rfl _ _ _ 57 rfl _ _ _ rfl rfl rfl rfl HRUN.out ?_))
  go_end0
  refine ⟨rfl, ⟨D2, ?_⟩, HK.out⟩
  unfold alt
  dsimp only
  rw [if_pos rfl, if_neg hct]
  exact H2.out
set_option maxRecDepth 100000 in
set_option maxHeartbeats 1000000 in
theorem alter_10 (c : Ch) (m : Nat) (l : Dir) (bk : Nat → Nat) (D : DataW Unit) (w : World) (h : MapAt w m l bk D) (hf : okN c.frm) (ht : okN c.to) (hL : l.length < maxLen) (hc : c.frm ≠ ByteArray.empty ∧ c.to = ByteArray.empty) :
    Calls Try.prog 44 #[chV bk c, .map (some m)] w (AltR w m l bk c) := by
  have hl := h.lt
  have hb0 := bl_alloc (Below.refl w.heap.size w) (Obj.cells #[.string c.frm, .string c.to, chP bk c] 68)
  have hk0 : Kw (fun b => b = m) w (w.alloc (Obj.cells #[.string c.frm, .string c.to, chP bk c] 68)) := Kw.ofBelow hb0
  have h0 := h.kw (Kw.ofBelow (S := fun _ => False) hb0) (fun h => h)
  have hbx : (w.alloc (Obj.cells #[.string c.frm, .string c.to, chP bk c] 68)).heap[w.heap.size]? = some (Obj.cells #[.string c.frm, .string c.to, chP bk c] 68) := new_heap w _
  have hs0 : (w.alloc (Obj.cells #[.string c.frm, .string c.to, chP bk c] 68)).heap.size = w.heap.size + 1 := by simp
  have hne : w.heap.size ≠ m := by omega
  unfold AltR
  unfold chV
  obtain ⟨frm, to, fi⟩ := c
  dsimp only at *
  obtain ⟨cp, hcp⟩ : ∃ cp, chP bk ⟨frm, to, fi⟩ = cp := ⟨_, rfl⟩
  have HCP := Lib.hid hcp
  rw [hcp] at hb0 hk0 h0 hbx hs0 ⊢
  clear hcp
  go_enter Try.func44, Try.ntmps44
  obtain ⟨hcf, hct⟩ := hc
  have x0 : (w.alloc (Obj.cells #[.string frm, .string to, cp] 68)).cell? ⟨w.heap.size, 0, none⟩ = some (.string frm) := cell_of hbx 0
  have x1 : (w.alloc (Obj.cells #[.string frm, .string to, cp] 68)).cell? ⟨w.heap.size, 1, none⟩ = some (.string to) := cell_of hbx 1
  have x2 : (w.alloc (Obj.cells #[.string frm, .string to, cp] 68)).cell? ⟨w.heap.size, 2, none⟩ = some cp := cell_of hbx 2
  have hlt : w.heap.size < (w.alloc (Obj.cells #[.string frm, .string to, cp] 68)).heap.size := by omega
  have hfd := str_ne hcf
  obtain ⟨w2, D2, hrun, h2, htn⟩ := h0.del hf 0
  have HRUN := Lib.hid hrun
  clear hrun
  subst hct
  have HK := Lib.hid (hk0.trans (turned_kw (S := fun b => b = m) htn rfl))
  have y1 := (turned_kw (S := fun b => b = m) htn rfl).cell (i := 1) hlt hne
  have hlt2 := (turned_kw (S := fun b => b = m) htn rfl).size
  rw [x1] at y1
  have y1l : w.heap.size < w2.heap.size := by omega
  have H2 := Lib.hid h2
  clear h2 htn
  go_wp2_with ((at_delete; refine wpList_delete_run rfl _ _ 57 9 rfl _ _ rfl rfl rfl HRUN.out ?_))
  go_end0
  refine ⟨rfl, ⟨D2, ?_⟩, HK.out⟩
  unfold alt
  dsimp only
  rw [if_neg hcf, if_pos rfl]
  exact H2.out
set_option maxRecDepth 100000 in
set_option maxHeartbeats 1000000 in
theorem alter_11 (c : Ch) (m : Nat) (l : Dir) (bk : Nat → Nat) (D : DataW Unit) (w : World) (h : MapAt w m l bk D) (hf : okN c.frm) (ht : okN c.to) (hL : l.length < maxLen) (hc : c.frm ≠ ByteArray.empty ∧ c.to ≠ ByteArray.empty) :
    Calls Try.prog 44 #[chV bk c, .map (some m)] w (AltR w m l bk c) := by
  have hl := h.lt
  have hb0 := bl_alloc (Below.refl w.heap.size w) (Obj.cells #[.string c.frm, .string c.to, chP bk c] 68)
  have hk0 : Kw (fun b => b = m) w (w.alloc (Obj.cells #[.string c.frm, .string c.to, chP bk c] 68)) := Kw.ofBelow hb0
  have h0 := h.kw (Kw.ofBelow (S := fun _ => False) hb0) (fun h => h)
  have hbx : (w.alloc (Obj.cells #[.string c.frm, .string c.to, chP bk c] 68)).heap[w.heap.size]? = some (Obj.cells #[.string c.frm, .string c.to, chP bk c] 68) := new_heap w _
  have hs0 : (w.alloc (Obj.cells #[.string c.frm, .string c.to, chP bk c] 68)).heap.size = w.heap.size + 1 := by simp
  have hne : w.heap.size ≠ m := by omega
  unfold AltR
  unfold chV
  obtain ⟨frm, to, fi⟩ := c
  dsimp only at *
  obtain ⟨cp, hcp⟩ : ∃ cp, chP bk ⟨frm, to, fi⟩ = cp := ⟨_, rfl⟩
  have HCP := Lib.hid hcp
  rw [hcp] at hb0 hk0 h0 hbx hs0 ⊢
  clear hcp
  go_enter Try.func44, Try.ntmps44
  obtain ⟨hcf, hct⟩ := hc
  have x0 : (w.alloc (Obj.cells #[.string frm, .string to, cp] 68)).cell? ⟨w.heap.size, 0, none⟩ = some (.string frm) := cell_of hbx 0
  have x1 : (w.alloc (Obj.cells #[.string frm, .string to, cp] 68)).cell? ⟨w.heap.size, 1, none⟩ = some (.string to) := cell_of hbx 1
  have x2 : (w.alloc (Obj.cells #[.string frm, .string to, cp] 68)).cell? ⟨w.heap.size, 2, none⟩ = some cp := cell_of hbx 2
  have hlt : w.heap.size < (w.alloc (Obj.cells #[.string frm, .string to, cp] 68)).heap.size := by omega
  have hfd := str_ne hcf
  obtain ⟨w2, D2, hrun, h2, htn⟩ := h0.del hf 0
  have HRUN := Lib.hid hrun
  clear hrun
  have htd := str_ne hct
  have hcpv : cp = ptrV (bk fi) := by rw [← HCP.out]; exact if_neg hct
  subst hcpv
  have k2 := turned_kw (S := fun b => b = m) htn rfl
  obtain ⟨w3, D3, hrun3, h3, htn3⟩ := h2.put ht fi (Nat.lt_of_le_of_lt (wo_le l frm) hL)
  have HRUN3 := Lib.hid hrun3
  have HK := Lib.hid ((hk0.trans k2).trans (turned_kw (S := fun b => b = m) htn3 rfl))
  have y1 := k2.cell (i := 1) hlt hne
  have y2 := k2.cell (i := 2) hlt hne
  have hlt2 := k2.size
  rw [x1] at y1
  rw [x2] at y2
  have y1l : w.heap.size < w2.heap.size := by omega
  have H3 := Lib.hid h3
  clear h2 htn h3 htn3 hrun3 k2
  go_wp2_with (first | (at_delete; refine wpList_delete_run rfl _ _ 57 9 rfl _ _ rfl rfl rfl HRUN.out ?_) | (at_mapUpdate; refine wpList_mapUpdate_run rfl _ _ _ 57 rfl _ _ _ rfl rfl rfl rfl HRUN3.out ?_))
  go_end0
  refine ⟨rfl, ⟨D3, ?_⟩, HK.out⟩
  unfold alt
  dsimp only
  rw [if_neg hcf, if_neg hct]
  exact H3.out
theorem alter_any (c : Ch) (m : Nat) (l : Dir) (bk : Nat → Nat) (D : DataW Unit) (w : World) (h : MapAt w m l bk D) (hf : okN c.frm) (ht : okN c.to) (hL : l.length < maxLen) :
    Calls Try.prog 44 #[chV bk c, .map (some m)] w (AltR w m l bk c) := by
  by_cases h1 : c.frm = ByteArray.empty
  · by_cases h2 : c.to = ByteArray.empty
    · exact alter_00 c m l bk D w h hf ht hL ⟨h1, h2⟩
    · exact alter_01 c m l bk D w h hf ht hL ⟨h1, h2⟩
  · by_cases h2 : c.to = ByteArray.empty
    · exact alter_10 c m l bk D w h hf ht hL ⟨h1, h2⟩
    · exact alter_11 c m l bk D w h hf ht hL ⟨h1, h2⟩
end Go.Proofs.Ytjgiohlkpenipaa
