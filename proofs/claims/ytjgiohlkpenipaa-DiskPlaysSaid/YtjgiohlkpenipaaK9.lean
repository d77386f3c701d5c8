/- What a script's calls keep; contract of play, whole. Conditions: as each theorem states them. -/
import Derived.Test.YtjgiohlkpenipaaK7
import Derived.Test.YtjgiohlkpenipaaK8
namespace Go.Proofs.Ytjgiohlkpenipaa
open Go.RowKit Go.Maps
set_option linter.unusedVariables false
set_option linter.unusedSimpArgs false

theorem Jn.new {room : Nat} (h : room ≤ 268435456) : Jn (newS room) := ⟨Inv.new h, Nat.le_refl _, fun d hd => by cases hd⟩
theorem Jn.step {s : DS} (h : Jn s) {e : Int} {f : DS → DS} (hi : Inv (s.step e f).2) (hf : s.down = false → e = 0 → (f s.tick).files.length ≤ (f s.tick).steps ∧ ∀ d ∈ (f s.tick).waits, d.frm = ByteArray.empty → d.to ≠ ByteArray.empty) : Jn (s.step e f).2 := by
  have hg : (s.step e f).2 = s ∨ (s.step e f).2 = s.gone ∨ ((s.step e f).2 = f s.tick ∧ s.down = false ∧ e = 0) := by
    unfold DS.step
    by_cases h1 : s.down = true
    · rw [if_pos h1]; exact .inl rfl
    · rw [if_neg h1]
      by_cases h2 : e = 0
      · rw [if_neg (by simpa using h2)]
        by_cases h3 : s.fuse = 1
        · rw [if_pos h3]; exact .inr (.inl rfl)
        · rw [if_neg h3]; exact .inr (.inr ⟨rfl, by simpa using h1, h2⟩)
      · rw [if_pos h2]; exact .inl rfl
  rcases hg with h1 | h1 | ⟨h1, h2, h3⟩
  · rw [h1]; exact h
  · rw [h1] at hi ⊢; exact ⟨hi, h.fl, h.wk⟩
  · rw [h1] at hi ⊢
    exact ⟨hi, (hf h2 h3).1, (hf h2 h3).2⟩
theorem wk_chg {s : DS} (h : ∀ d ∈ s.waits, d.frm = ByteArray.empty → d.to ≠ ByteArray.empty) {c : Ch} (hc : c.frm = ByteArray.empty → c.to ≠ ByteArray.empty) : ∀ d ∈ (s.chg c).waits, d.frm = ByteArray.empty → d.to ≠ ByteArray.empty := fun d hd => by
  rcases List.mem_append.1 hd with hd | hd
  · exact h d hd
  · obtain rfl := List.mem_singleton.1 hd
    exact hc
theorem turnB_size {D : ByteArray} {k x : Nat} (hk : k < D.size) : (turnB D k x).size = D.size := by
  unfold turnB oneB
  rw [ByteArray.size_append, ByteArray.size_append, ByteArray.size_extract, ByteArray.size_extract]
  show min k D.size - 0 + 1 + _ = _
  omega
section
variable {s : DS} (h : Jn s) (hs : s.steps < 1000000)
include h hs
theorem Jn.create (n : ByteArray) : Jn (s.create n).2 := h.step (h.iv.create hs n) (fun hd he => by
  refine ⟨?_, wk_chg h.wk (fun _ => named_ne (ag_create he).1)⟩
  show (s.files ++ [zeroF]).length ≤ s.steps + 1
  rw [List.length_append]
  have := h.fl
  simp
  omega)
theorem Jn.append (n : ByteArray) {data : ByteArray} (hd : data.size ≤ 2000) : Jn (s.append n data).2 := h.step (h.iv.append hs n hd) (fun _ _ => by
  refine ⟨?_, h.wk⟩
  show (s.files.set _ _).length ≤ s.steps + 1
  rw [List.length_set]
  have := h.fl
  omega)
theorem Jn.fsync (n : ByteArray) : Jn (s.fsync n).2 := h.step (h.iv.fsync hs n) (fun _ _ => by
  refine ⟨?_, h.wk⟩
  show (s.files.set _ _).length ≤ s.steps + 1
  rw [List.length_set]
  have := h.fl
  omega)
theorem Jn.dsync : Jn s.dsync.2 := h.step (h.iv.dsync hs) (fun _ _ => by
  refine ⟨?_, fun d hd => by cases hd⟩
  show s.files.length ≤ s.steps + 1
  have := h.fl
  omega)
theorem Jn.rename (n to : ByteArray) : Jn (s.rename n to).2 := h.step (h.iv.rename hs n to) (fun hd he => by
  refine ⟨?_, wk_chg h.wk (fun _ => named_ne (ag_rename he).1)⟩
  show s.files.length ≤ s.steps + 1
  have := h.fl
  omega)
theorem Jn.remove (n : ByteArray) : Jn (s.remove n).2 := h.step (h.iv.remove hs n) (fun hd he => by
  obtain ⟨i, hi⟩ := ag_there he
  refine ⟨?_, wk_chg h.wk (fun e => absurd e (named_ne (named_dir h.iv hi)))⟩
  show s.files.length ≤ s.steps + 1
  have := h.fl
  omega)
omit hs
theorem Jn.fuseTo {n : Int} (hn : n < 9223372036854775808) : Jn (s.fuseTo n) := by
  have hi := h.iv.fuseTo hn
  unfold DS.fuseTo at hi ⊢
  split at hi
  · rename_i hd
    rw [if_pos hd]
    exact h
  · rename_i hd
    rw [if_neg hd]
    exact ⟨hi, h.fl, h.wk⟩
theorem Jn.crash (cs : List Int) : Jn (s.crash cs) := by
  refine ⟨h.iv.crash cs, ?_, fun d hd => by cases hd⟩
  unfold DS.crash
  have h1 := (cutAll_dir (s.keep (pick cs (s.waits.length + 1))).kept (s.keep (pick cs (s.waits.length + 1))) cs.tail).2.2.2
  have h2 := (cutAll_rest (s.keep (pick cs (s.waits.length + 1))).kept (s.keep (pick cs (s.waits.length + 1))) cs.tail).2
  show (cutAll _ _ _).1.files.length ≤ (cutAll _ _ _).1.steps
  rw [h1, h2]
  exact h.fl
theorem Jn.turn (n : ByteArray) (at_ : Int) (x : Nat) : Jn (s.turn n at_ x).2 := by
  unfold DS.turn
  by_cases he : (s.read n).2 = 0
  · rw [if_neg (by simpa using he)]
    by_cases ha : at_ < 0 ∨ ((s.read n).1.size : Int) ≤ at_
    · rw [if_pos ha]; exact h
    · rw [if_neg ha]
      obtain ⟨hd, k, hk, hD, hat⟩ := read_ok he
      rw [hD] at ha ⊢
      rw [hat]
      have hz := turnB_size (D := (s.file k).data) (k := at_.toNat) (x := x) (by omega)
      refine ⟨h.iv.setF k ?_ ?_, ?_, h.wk⟩
      · show (turnB _ _ _).size ≤ _
        rw [hz]
        exact h.iv.ok.fs k
      · show _ ≤ (turnB _ _ _).size
        rw [hz]
        exact h.iv.ok.su k
      · show (s.files.set _ _).length ≤ s.steps
        rw [List.length_set]
        exact h.fl
  · rw [if_pos he]; exact h
end
theorem turn_steps (s : DS) (n : ByteArray) (at_ : Int) (x : Nat) : (s.turn n at_ x).2.steps = s.steps := by
  unfold DS.turn
  split
  · rfl
  · split <;> rfl
theorem Jn.play {s : DS} (h : Jn s) (hs : s.steps < 1000000) (o : Oq) (hd : o.dt.size ≤ 2000) (hn : o.n < 9223372036854775808) : Jn (s.play o) := by
  unfold DS.play
  repeat' split
  · exact h.create hs _
  · exact h.append hs _ hd
  · exact h.fsync hs _
  · exact h.dsync hs
  · exact h.rename hs _ _
  · exact h.remove hs _
  · exact h.fuseTo hn
  · exact h.crash _
  · exact h.turn _ _ _
  · exact h.turn _ _ _
  · exact h
theorem play_steps (s : DS) (o : Oq) : (s.play o).steps ≤ s.steps + 1 := by
  unfold DS.play
  repeat' split
  · exact step_steps s _ _ rfl
  · exact step_steps s _ _ rfl
  · exact step_steps s _ _ rfl
  · exact step_steps s _ _ rfl
  · exact step_steps s _ _ rfl
  · exact step_steps s _ _ rfl
  · unfold DS.fuseTo; split <;> exact Nat.le_succ _
  · rw [(crash_up s o.cs).2]; exact Nat.le_succ _
  · rw [turn_steps]; exact Nat.le_succ _
  · rw [turn_steps]; exact Nat.le_succ _
  · exact Nat.le_succ _
theorem play_any (L : Lay) (s : DS) (o : Oq) (b : Nat) (v : Rv) (w : World) (hd : DAt w L s) (hr : RefAt w b v s) (j : Jn s) (hs : s.steps < 1000000) (hn : okN o.nm) (hdn : okN o.dt) (hds : o.dt.size ≤ 2000) (hnn : -9223372036854775808 ≤ o.n ∧ o.n < 9223372036854775808)
    (hA : RdC w o.A o.cs) (hl : o.cs.length ≤ 300) (hoff : 0 < o.cs.length → ∀ a, o.A = some a → ¬ Foot L s a.block ∧ a.block ≠ b) :
    Calls Try.prog 25 #[dP L, ptrV b, opV o] w (PlayR w L s b (s.play o)) := by
  by_cases h1 : o.k = 1
  · exact play_create L s o b v w hd hr j hs hn hdn hds h1
  by_cases h2 : o.k = 2
  · exact play_append L s o b v w hd hr j hs hn hdn hds h2
  by_cases h3 : o.k = 3
  · exact play_sync L s o b v w hd hr j hs hn hdn hds h3
  by_cases h4 : o.k = 4
  · exact play_dsync L s o b v w hd hr j hs hn hdn hds h4
  by_cases h5 : o.k = 5
  · exact play_rename L s o b v w hd hr j hs hn hdn hds h5
  by_cases h6 : o.k = 6
  · exact play_remove L s o b v w hd hr j hs hn hdn hds h6
  by_cases h7 : o.k = 7
  · exact play_fuse L s o b v w hd hr j hs hn hnn h7
  by_cases h8 : o.k = 8
  · exact play_crash L s o b v w hd hr j hs hn hnn h8 hA hl hoff
  by_cases h9 : o.k = 9
  · by_cases hz : 0 < o.dt.size
    · exact play_turn1 L s o b v w hd hr j hs hn hnn h9 hz
    · exact play_turn0 L s o b v w hd hr j hs hn hnn h9 (by omega)
  · exact play_none L s o b v w hd hr j hs hn hnn h1 h2 h3 h4 h5 h6 h7 h8 h9
/-- No call answers that the disk is not there. -/
theorem step_n1 {s : DS} {e : Int} {f : DS → DS} (he : e ≠ 1) : (s.step e f).1 ≠ 1 := by
  unfold DS.step
  split
  · show (9 : Int) ≠ 1
    decide
  · split
    · exact he
    · split
      · show (9 : Int) ≠ 1
        decide
      · show (0 : Int) ≠ 1
        decide
theorem create_n1 (s : DS) (n : ByteArray) : (s.create n).1 ≠ 1 := step_n1 (by unfold agCreate; (repeat' split) <;> decide)
theorem append_n1 (s : DS) (n d : ByteArray) : (s.append n d).1 ≠ 1 := step_n1 (by unfold agAppend; (repeat' split) <;> decide)
theorem dsync_n1 (s : DS) : s.dsync.1 ≠ 1 := step_n1 (by decide)
set_option maxRecDepth 100000 in
set_option maxHeartbeats 1000000 in
theorem new_bad (room : Int) (w : World) (h : room < 0 ∨ 268435456 < room) : Calls Try.prog 10 #[.int .i64 room] w fun e w' => e = .returned (.tuple #[.pointer none, .int .i64 2]) ∧ w = w' := by
  by_cases h0 : room < 0
  · clear h
    go_enter Try.func10, Try.ntmps10
    go_wp2_with (fail)
    go_ret2
    exact ⟨rfl, rfl⟩
  · have h1 : 268435456 < room := by omega
    clear h
    go_enter Try.func10, Try.ntmps10
    go_wp2_with (fail)
    go_ret2
    exact ⟨rfl, rfl⟩
end Go.Proofs.Ytjgiohlkpenipaa
