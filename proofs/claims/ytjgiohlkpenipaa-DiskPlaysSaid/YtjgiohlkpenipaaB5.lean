/- Contracts of New, Read, Down, Steps, Fuse. Conditions: as each theorem states them. -/
import Derived.Test.YtjgiohlkpenipaaB4
namespace Go.Proofs.Ytjgiohlkpenipaa
open Go.RowKit Go.Maps
set_option linter.unusedVariables false
set_option linter.unusedSimpArgs false

theorem wpList_lookup_run {P : Program} {w : World} {ops : Array Oper} {rest : List Oper} {o : Oper} {a : Act} {Q : Exit → Act → World → Prop} (hg : o.guard = none) (m x : Operand) (t : TypeId) (hop : o.op = Op.lookup t m x false) (mv kv u : Value) (hm : a.eval m = mv) (hx : a.eval x = kv)
    (hrun : (Instr.lookup t mv kv false).run P w = .ok u w) (hK : wpList P ops Q rest (a.put o.dst u) w) : wpList P ops Q (o :: rest) a w := by
  refine wpList_plain hg fun K' hK' => ?_
  unfold Oper.wp
  simp [execOp, hop, hm, hx, hrun, Result.andThen]
  exact hK' _ _ hK
/-- A new disk. -/
def newS (room : Nat) : DS := ⟨room, 0, 0, false, [], [], [], []⟩
def newL (w : World) : Lay := ⟨w.heap.size + 2, w.heap.size, w.heap.size + 1, fun _ => 0, .slice none 0 0⟩
theorem newS_has (room i : Nat) : ¬ (newS room).has i := by
  rintro (⟨n, h⟩ | ⟨n, h⟩ | ⟨c, h, _⟩) <;> cases h
theorem newS_ok {room : Nat} (h : room ≤ 268435456) : OkS (newS room) := by
  have hf : ∀ i, (newS room).file i = zeroF := fun i => by unfold newS DS.file; simp
  refine ⟨h, by simp [newS], by simp [newS], by simp [newS], by simp [newS], fun i => ?_, fun i => ?_, by simp [newS], by simp [newS], by simp [newS]⟩
  · rw [hf]; show ByteArray.empty.size ≤ _; simp
  · rw [hf]; exact Nat.zero_le _
set_option maxRecDepth 100000 in
set_option maxHeartbeats 1000000 in
theorem new_any (room : Nat) (w : World) (h : room ≤ 268435456) : Calls Try.prog 10 #[.int .i64 room] w fun e w' => e = .returned (.tuple #[dP (newL w), .int .i64 0]) ∧ DAt w' (newL w) (newS room) ∧ Below w.heap.size w w' := by
  have h1 : (0 : Int) ≤ (room : Int) := by omega
  have h2 : (room : Int) ≤ 268435456 := by omega
  have hb : Below w.heap.size w (((w.alloc (.map #[] 0)).alloc (.map #[] 0)).alloc (Obj.cells (dcells (newL w) (newS room)) 60)) := bl_alloc (bl_alloc (bl_alloc (Below.refl _ _) _) _) _
  have hd : DAt (((w.alloc (.map #[] 0)).alloc (.map #[] 0)).alloc (Obj.cells (dcells (newL w) (newS room)) 60)) (newL w) (newS room) := by
    have hm0 : MapAt (w.alloc (.map #[] 0)) w.heap.size [] (fun _ => 0) (.map []) := MapAt.made w _
    have hm1 : MapAt ((w.alloc (.map #[] 0)).alloc (.map #[] 0)) (w.heap.size + 1) [] (fun _ => 0) (.map []) := by simpa using MapAt.made (w.alloc (.map #[] 0)) (fun _ => 0)
    refine ⟨by simpa [newL] using new_heap ((w.alloc (.map #[] 0)).alloc (.map #[] 0)) (Obj.cells (dcells (newL w) (newS room)) 60), ⟨_, (hm0.kw (S := fun _ => False) (Kw.ofBelow (bl_alloc (bl_alloc (Below.refl _ _) _) _)) (fun h => h))⟩, ⟨_, hm1.kw (S := fun _ => False) (Kw.ofBelow (bl_alloc (Below.refl _ _) _)) (fun h => h)⟩, ⟨rfl, .inl ⟨rfl, rfl⟩⟩, fun i hi => absurd hi (newS_has room i), fun i j hi => absurd hi (newS_has room i), by simp [newL], fun c hc => by cases hc⟩
  have X := Lib.hid (And.intro hd hb)
  clear hd hb
  unfold dcells newL newS dP at *
  dsimp only at *
  have hmm := @run_makeMap Try.prog
  go_enter Try.func10, Try.ntmps10
  go_wp2_with (fail)
  go_ret2
  exact ⟨rfl, X.out⟩
set_option maxRecDepth 100000 in
theorem down_any (L : Lay) (s : DS) (w : World) (h : DAt w L s) : Calls Try.prog 20 #[dP L] w fun e w' => e = .returned (.bool s.down) ∧ w = w' := by
  obtain ⟨_, _, _, a3, _⟩ := h.c
  have hl := h.lt
  unfold dP
  clear h
  go_enter Try.func20, Try.ntmps20
  go_wp2_with (fail)
  go_ret
  exact ⟨rfl, rfl⟩
set_option maxRecDepth 100000 in
theorem steps_any (L : Lay) (s : DS) (w : World) (h : DAt w L s) : Calls Try.prog 22 #[dP L] w fun e w' => e = .returned (.int .i64 s.steps) ∧ w = w' := by
  obtain ⟨_, a1, _⟩ := h.c
  have hl := h.lt
  unfold dP
  clear h
  go_enter Try.func22, Try.ntmps22
  go_wp2_with (fail)
  go_ret
  exact ⟨rfl, rfl⟩
/-- What Read tells. -/
def DS.read (s : DS) (n : ByteArray) : ByteArray × Int := if s.down then (ByteArray.empty, 9) else match look s.dir n with
  | none => (ByteArray.empty, 4)
  | some i => ((s.file i).data, 0)
set_option maxRecDepth 100000 in
set_option maxHeartbeats 1000000 in
theorem read_any (L : Lay) (s : DS) (n : ByteArray) (w : World) (h : DAt w L s) (hn : okN n) : Calls Try.prog 17 #[dP L, .string n] w fun e w' => e = .returned (.tuple #[.string (s.read n).1, .int .i64 (s.read n).2]) ∧ w = w' := by
  have HR := Lib.hid (ready_any L s w h)
  have a4 := h.c.2.2.2.2.1
  have hl := h.lt
  cases hdn : s.down with
  | true =>
    have hE : s.read n = (ByteArray.empty, 9) := by unfold DS.read; rw [if_pos hdn]
    rw [hE]
    rw [hdn, if_pos rfl] at HR
    clear hE hdn h
    unfold dP at *
    go_enter Try.func17, Try.ntmps17
    go_wp2_with (fail)
    refine HR.out.mono ?_
    rintro r w' ⟨rfl, rfl⟩
    go_wp2_with (fail)
    go_ret2
    exact ⟨rfl, rfl⟩
  | false =>
    rw [hdn, if_neg (by decide)] at HR
    obtain ⟨D, hD⟩ := h.dirm
    have hlk := hD.look hn
    cases hl2 : look s.dir n with
    | none =>
      have hE : s.read n = (ByteArray.empty, 4) := by unfold DS.read; rw [if_neg (by simp [hdn]), hl2]
      rw [hE]
      rw [hl2] at hlk
      have hlk : (Instr.lookup 57 (.map (some L.md)) (.string n) false).run Try.prog w = .ok (.pointer none) w := hlk
      have HLK := Lib.hid hlk
      clear hE hdn h hD hl2 hlk
      unfold dP at *
      go_enter Try.func17, Try.ntmps17
      go_wp2_with (fail)
      refine HR.out.mono ?_
      rintro r w' ⟨rfl, rfl⟩
      go_wp2_with (at_lookup; refine wpList_lookup_run rfl _ _ 57 rfl _ _ _ rfl rfl HLK.out ?_)
      go_ret2
      exact ⟨rfl, rfl⟩
    | some i =>
      have hE : s.read n = ((s.file i).data, 0) := by unfold DS.read; rw [if_neg (by simp [hdn]), hl2]
      rw [hE]
      rw [hl2] at hlk
      have hlk : (Instr.lookup 57 (.map (some L.md)) (.string n) false).run Try.prog w = .ok (.pointer (some ⟨L.bk i, 0, none⟩)) w := hlk
      have hfa := (h.file i (.inl ⟨n, look_some hl2⟩)).1
      have f0 := hfa.cells.1
      have fl := hfa.lt
      have HLK := Lib.hid hlk
      clear hE hdn h hD hl2 hfa hlk
      unfold dP at *
      go_enter Try.func17, Try.ntmps17
      go_wp2_with (fail)
      refine HR.out.mono ?_
      rintro r w' ⟨rfl, rfl⟩
      go_wp2_with (at_lookup; refine wpList_lookup_run rfl _ _ 57 rfl _ _ _ rfl rfl HLK.out ?_)
      go_ret2
      exact ⟨rfl, rfl⟩
/-- A fuse is set. -/
def DS.fuseTo (s : DS) (n : Int) : DS := if s.down then s else { s with fuse := n.toNat }
set_option maxRecDepth 100000 in
set_option maxHeartbeats 1000000 in
theorem fuse_any (L : Lay) (s : DS) (n : Int) (w : World) (h : DAt w L s) (hn : n < 9223372036854775808) : Calls Try.prog 21 #[dP L, .int .i64 n] w fun e w' => e = .returned (.tuple #[]) ∧ DAt w' L (s.fuseTo n) ∧ Kw (fun b => b = L.d) w w' := by
  have HR := Lib.hid (ready_any L s w h)
  have a2 := h.c.2.2.1
  have f2 := h.fz 2
  have hl := h.lt
  cases hdn : s.down with
  | true =>
    have hE : s.fuseTo n = s := by unfold DS.fuseTo; rw [if_pos hdn]
    rw [hE]
    rw [hdn, if_pos rfl] at HR
    have H := Lib.hid h
    clear hE hdn h
    unfold dP at *
    go_enter Try.func21, Try.ntmps21
    go_wp2_with (fail)
    refine HR.out.mono ?_
    rintro r w' ⟨rfl, rfl⟩
    go_wp2_with (fail)
    go_end0
    exact ⟨rfl, H.out, Kw.refl _ _⟩
  | false =>
    have hE : s.fuseTo n = { s with fuse := n.toNat } := by unfold DS.fuseTo; rw [if_neg (by simp [hdn])]
    rw [hE]
    rw [hdn, if_neg (by decide)] at HR
    have hm : max n 0 = ((n.toNat : Nat) : Int) := by omega
    have HD : Hid (DAt (w.setCell ⟨L.d, 2, none⟩ (.int .i64 ((n.toNat : Nat) : Int))) L { s with fuse := n.toNat }) := Lib.hid (h.set1 _ _ _ (by unfold dcells; simp [List.setIfInBounds_toArray]) rfl rfl rfl rfl)
    have HK : Hid (Kw (fun b => b = L.d) w (w.setCell ⟨L.d, 2, none⟩ (.int .i64 ((n.toNat : Nat) : Int)))) := Lib.hid ((Kw.refl (fun b => b = L.d) w).setCell (p := ⟨L.d, 2, none⟩) rfl _)
    clear hE hdn h
    unfold dP at *
    rw [← hm] at HD HK
    clear hm
    go_enter Try.func21, Try.ntmps21
    go_wp2_with (fail)
    refine HR.out.mono ?_
    rintro r w' ⟨rfl, rfl⟩
    go_wp2_with (fail)
    go_end0
    exact ⟨rfl, HD.out, HK.out⟩
end Go.Proofs.Ytjgiohlkpenipaa
