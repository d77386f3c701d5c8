/- ModelNone, given the sample. Conditions: as each theorem states them. -/
import Derived.Test.YtfojblbnhapedaaGreatDoorF3
namespace Go.Proofs.YtfojblbnhapedaaGreatDoor
open Go.RowKit Go.Maps
set_option linter.unusedVariables false
set_option linter.unusedSimpArgs false

def zeroM : Array Value := #[.int .i64 0, .int .i64 0, .int .i64 0, .int .i64 0, .slice none 0 0, .pointer none, .map none, .int .i64 0]
def ZeroAt (w : World) (b : Nat) : Prop := w.heap[b]? = some (Obj.cells zeroM 87)
/-- No model: nil, or one that nobody made. -/
def NoneAt (w : World) (p : Option Nat) : Prop := ∀ b, p = some b → ZeroAt w b
def npV (p : Option Nat) : Value := .pointer (p.map fun b => ⟨b, 0, none⟩)
theorem NoneAt.below {w w' : World} {p : Option Nat} (h : NoneAt w p) (k : Below w.heap.size w w') : NoneAt w' p := fun b hb => (k.block b (Array.getElem?_eq_some_iff.1 (h b hb)).1).trans (h b hb)
theorem ZeroAt.c {w : World} {b : Nat} (h : ZeroAt w b) (i : Nat) : w.cell? ⟨b, i, none⟩ = zeroM[i]? := cell_of h i
set_option maxRecDepth 100000 in
set_option maxHeartbeats 4000000 in
theorem none_now (p : Option Nat) (w : World) (h : NoneAt w p) : Calls Tryz.prog 23 #[npV p] w fun e w' => e = .returned (.int .i64 0) ∧ w = w' := by
  rcases p with _ | b
  · clear h
    unfold npV
    dsimp only [Option.map]
    go_enter Tryz.func23, Tryz.ntmps23
    go_wp2_with (fail)
    go_ret
    exact ⟨rfl, rfl⟩
  · have c5 := (h b rfl).c 5
    have hl := (Array.getElem?_eq_some_iff.1 (h b rfl)).1
    simp only [zeroM, List.getElem?_toArray, List.getElem?_cons_zero, List.getElem?_cons_succ] at c5
    have HN : Hid (Calls Tryz.prog 38 #[.pointer none] w fun e w' => e = .returned (.int .i64 0) ∧ w = w') := Lib.hid (by
      clear h c5 hl
      go_enter Tryz.func38, Tryz.ntmps38
      go_wp2_with (fail)
      go_ret
      exact ⟨rfl, rfl⟩)
    clear h
    unfold npV
    dsimp only [Option.map]
    go_enter Tryz.func23, Tryz.ntmps23
    go_wp2_with (fail)
    refine HN.out.mono ?_
    rintro e w' ⟨rfl, rfl⟩
    go_wp2_with (fail)
    go_ret
    exact ⟨rfl, rfl⟩
set_option maxRecDepth 100000 in
set_option maxHeartbeats 4000000 in
theorem none_dropped (p : Option Nat) (w : World) (h : NoneAt w p) : Calls Tryz.prog 28 #[npV p] w fun e w' => e = .returned (.int .i64 0) ∧ w = w' := by
  rcases p with _ | b
  · clear h
    unfold npV
    dsimp only [Option.map]
    go_enter Tryz.func28, Tryz.ntmps28
    go_wp2_with (fail)
    go_ret
    exact ⟨rfl, rfl⟩
  · have c7 := (h b rfl).c 7
    have hl := (Array.getElem?_eq_some_iff.1 (h b rfl)).1
    simp only [zeroM, List.getElem?_toArray, List.getElem?_cons_zero, List.getElem?_cons_succ] at c7
    clear h
    unfold npV
    dsimp only [Option.map]
    go_enter Tryz.func28, Tryz.ntmps28
    go_wp2_with (fail)
    go_ret
    exact ⟨rfl, rfl⟩
theorem len_nil85 (w : World) (ty : TypeId) : (Builtin.len_ #[85] ty #[.map none]).run Tryz.prog w = .ok (.int .i64 0) w := by
  simp [Builtin.len_, u85, go_sem]
set_option maxRecDepth 100000 in
set_option maxHeartbeats 4000000 in
theorem none_count (p : Option Nat) (w : World) (h : NoneAt w p) : Calls Tryz.prog 29 #[npV p] w fun e w' => e = .returned (.int .i64 0) ∧ w = w' := by
  rcases p with _ | b
  · clear h
    unfold npV
    dsimp only [Option.map]
    go_enter Tryz.func29, Tryz.ntmps29
    go_wp2_with (fail)
    go_ret
    exact ⟨rfl, rfl⟩
  · have c6 := (h b rfl).c 6
    have hl := (Array.getElem?_eq_some_iff.1 (h b rfl)).1
    have hz := fun W => len_nil85 W 3
    simp only [zeroM, List.getElem?_toArray, List.getElem?_cons_zero, List.getElem?_cons_succ] at c6
    clear h
    unfold npV
    dsimp only [Option.map]
    go_enter Tryz.func29, Tryz.ntmps29
    go_wp2_with (fail)
    go_ret
    exact ⟨rfl, rfl⟩
set_option maxRecDepth 100000 in
set_option maxHeartbeats 4000000 in
theorem none_do (p : Option Nat) (e : Ev) (w : World) (h : NoneAt w p) : Calls Tryz.prog 24 #[npV p, evV e] w fun r w' => r = .returned (.tuple #[.slice none 0 0, .int .i64 1]) ∧ Below w.heap.size w w' := by
  have hb := bl_alloc (Below.refl w.heap.size w) (Obj.cells #[.int .i64 e.k, .int .i64 e.src, .int .i64 e.t, .string e.key, .int .i64 e.v] 26)
  have HB := Lib.hid hb
  rcases p with _ | b
  · clear h hb
    unfold npV evV
    dsimp only [Option.map]
    go_enter Tryz.func24, Tryz.ntmps24
    go_wp2_with (fail)
    go_ret2
    exact ⟨rfl, HB.out⟩
  · have h2 := h.below hb
    have c5 := (h2 b rfl).c 5
    have hl := (Array.getElem?_eq_some_iff.1 (h2 b rfl)).1
    simp only [zeroM, List.getElem?_toArray, List.getElem?_cons_zero, List.getElem?_cons_succ] at c5
    clear h hb h2
    unfold npV evV
    dsimp only [Option.map]
    go_enter Tryz.func24, Tryz.ntmps24
    go_wp2_with (fail)
    go_ret2
    exact ⟨rfl, HB.out⟩
set_option maxRecDepth 100000 in
set_option maxHeartbeats 4000000 in
theorem none_open (p : Option Nat) (op : Int) (key : ByteArray) (w : World) (h : NoneAt w p) : Calls Tryz.prog 25 #[npV p, .int .i64 op, .string key] w fun r w' => r = .returned (.tuple #[.slice none 0 0, .int .i64 1]) ∧ w = w' := by
  rcases p with _ | b
  · clear h
    unfold npV
    dsimp only [Option.map]
    go_enter Tryz.func25, Tryz.ntmps25
    go_wp2_with (fail)
    go_ret2
    exact ⟨rfl, rfl⟩
  · have c5 := (h b rfl).c 5
    have hl := (Array.getElem?_eq_some_iff.1 (h b rfl)).1
    simp only [zeroM, List.getElem?_toArray, List.getElem?_cons_zero, List.getElem?_cons_succ] at c5
    clear h
    unfold npV
    dsimp only [Option.map]
    go_enter Tryz.func25, Tryz.ntmps25
    go_wp2_with (fail)
    go_ret2
    exact ⟨rfl, rfl⟩
end Go.Proofs.YtfojblbnhapedaaGreatDoor
namespace Go.Proofs.YtfojblbnhapedaaGreatDoor
open Go.RowKit Go.Maps
set_option linter.unusedVariables false
set_option linter.unusedSimpArgs false

/-- The sample's answer. -/
def Awake : Prop := ∀ w, Calls Tryz.prog 13 #[] w fun e w' => e = .returned (.bool true) ∧ Below w.heap.size w w'
set_option maxRecDepth 100000 in
set_option maxHeartbeats 8000000 in
theorem none_law (AW : Awake) (ev : Ev) (op : Int) (key : ByteArray) (w : World) : Calls Tryz.prog 12 #[evV ev, .int .i64 op, .string key] w fun e w' => e = .returned (.bool true) ∧ Below w.heap.size w w' := by
  have hb := bl_alloc (bl_alloc (Below.refl w.heap.size w) (Obj.cells #[.int .i64 ev.k, .int .i64 ev.src, .int .i64 ev.t, .string ev.key, .int .i64 ev.v] 26)) (Obj.cells #[.int .i64 0, .int .i64 0, .int .i64 0, .int .i64 0, .slice none 0 0, .pointer none, .map none, .int .i64 0] 87)
  have HB := Lib.hid hb
  have hn0 := heap_alloc_new w (Obj.cells #[.int .i64 ev.k, .int .i64 ev.src, .int .i64 ev.t, .string ev.key, .int .i64 ev.v] 26)
  have hn1 := heap_alloc_new (w.alloc (Obj.cells #[.int .i64 ev.k, .int .i64 ev.src, .int .i64 ev.t, .string ev.key, .int .i64 ev.v] 26)) (Obj.cells #[.int .i64 0, .int .i64 0, .int .i64 0, .int .i64 0, .slice none 0 0, .pointer none, .map none, .int .i64 0] 87)
  have hs1 : (w.alloc (Obj.cells #[.int .i64 ev.k, .int .i64 ev.src, .int .i64 ev.t, .string ev.key, .int .i64 ev.v] 26)).heap.size = w.heap.size + 1 := by simp
  have hs2 : ((w.alloc (Obj.cells #[.int .i64 ev.k, .int .i64 ev.src, .int .i64 ev.t, .string ev.key, .int .i64 ev.v] 26)).alloc (Obj.cells #[.int .i64 0, .int .i64 0, .int .i64 0, .int .i64 0, .slice none 0 0, .pointer none, .map none, .int .i64 0] 87)).heap.size = w.heap.size + 2 := by simp
  rw [hs1] at hn1
  have hn2 := ((Below.refl _ _).alloc (Nat.le_refl _) (Obj.cells #[.int .i64 0, .int .i64 0, .int .i64 0, .int .i64 0, .slice none 0 0, .pointer none, .map none, .int .i64 0] 87)).block _ (by rw [hs1]; omega) |>.trans hn0
  have HN1 := Lib.hid hn1
  have HN2 := Lib.hid hn2
  have HS2 := Lib.hid hs2
  obtain ⟨k, src, t, ky, v⟩ := ev
  have HD := Lib.hid (fun p => none_do p ⟨k, src, t, ky, v⟩)
  unfold evV at *
  dsimp only at *
  clear hb hn0 hn1 hn2 hs1 hs2
  go_enter Tryz.func12, Tryz.ntmps12
  go_wp2_with (fail)
  generalize ((w.alloc (Obj.cells #[.int .i64 k, .int .i64 src, .int .i64 t, .string ky, .int .i64 v] 26)).alloc (Obj.cells #[.int .i64 0, .int .i64 0, .int .i64 0, .int .i64 0, .slice none 0 0, .pointer none, .map none, .int .i64 0] 87)) = W at *
  go_loopw [7, 9] (fun vm vi wr => ∃ (i : Nat) (p : Option Nat), i ≤ 2 ∧ vi = .int .i64 i ∧ vm = npV p ∧ (p = none ∨ p = some (w.heap.size + 1)) ∧ Below W.heap.size W wr) (fun _ i _ => 2 - (intOf i).toNat)
  case atStart => exact ⟨0, none, by omega, rfl, rfl, .inl rfl, Below.refl _ _⟩
  case round =>
    obtain ⟨i, p, hi, rfl, rfl, hp, hbl⟩ := hrel
    have hm2 := (hbl.block _ (Array.getElem?_eq_some_iff.1 HN2.out).1).trans HN2.out
    have hz := (hbl.block _ (Array.getElem?_eq_some_iff.1 HN1.out).1).trans HN1.out
    have x0 := cell_of hm2 0
    have x1 := cell_of hm2 1
    have x2 := cell_of hm2 2
    have x3 := cell_of hm2 3
    have x4 := cell_of hm2 4
    have xl := (Array.getElem?_eq_some_iff.1 hm2).1
    simp only [List.getElem?_toArray, List.getElem?_cons_zero, List.getElem?_cons_succ] at x0 x1 x2 x3 x4
    have HNA : Hid (NoneAt wr none) := Lib.hid (fun b hb => by cases hb)
    have HNB : Hid (NoneAt wr (some (w.heap.size + 1))) := Lib.hid (fun b hb => by cases hb; exact hz)
    have HBL := Lib.hid hbl
    clear hbl hm2 hz
    by_cases h2 : i < 2
    · have h2' : (i : Int) < 2 := by omega
      by_cases h1 : i = 1
      · subst h1
        clear hp
        have HDQ := Lib.hid (HD.out (some (w.heap.size + 1)) wr HNB.out)
        have HOQ := Lib.hid (fun w' (k : Below wr.heap.size wr w') => none_open (some (w.heap.size + 1)) op key w' (HNB.out.below k))
        have HNQ := Lib.hid (fun w' (k : Below wr.heap.size wr w') => none_now (some (w.heap.size + 1)) w' (HNB.out.below k))
        have HRQ := Lib.hid (fun w' (k : Below wr.heap.size wr w') => none_dropped (some (w.heap.size + 1)) w' (HNB.out.below k))
        have HCQ := Lib.hid (fun w' (k : Below wr.heap.size wr w') => none_count (some (w.heap.size + 1)) w' (HNB.out.below k))
        clear HNA HNB HD
        unfold npV at *
        dsimp only [Option.map] at *
        go_wp2_with (fail)
        refine HDQ.out.mono ?_
        rintro r w1 ⟨rfl, hb1⟩
        have HB1 := Lib.hid hb1
        clear hb1
        go_wp2_with (fail)
        refine (HOQ.out w1 HB1.out).mono ?_
        rintro r w2 ⟨rfl, rfl⟩
        go_wp2_with (fail)
        refine (HNQ.out w1 HB1.out).mono ?_
        rintro r w2 ⟨rfl, rfl⟩
        go_wp2_with (fail)
        refine (HRQ.out w1 HB1.out).mono ?_
        rintro r w2 ⟨rfl, rfl⟩
        go_wp2_with (fail)
        refine (HCQ.out w1 HB1.out).mono ?_
        rintro r w2 ⟨rfl, rfl⟩
        go_wp2_with (fail)
        exact ⟨⟨2, some (w.heap.size + 1), by omega, rfl, rfl, .inr rfl, bl_then HBL.out HB1.out⟩, by simp [intOf]⟩
      · obtain rfl : i = 0 := by omega
        rcases hp with rfl | rfl
        · skip
          have HDQ := Lib.hid (HD.out (none) wr HNA.out)
          have HOQ := Lib.hid (fun w' (k : Below wr.heap.size wr w') => none_open (none) op key w' (HNA.out.below k))
          have HNQ := Lib.hid (fun w' (k : Below wr.heap.size wr w') => none_now (none) w' (HNA.out.below k))
          have HRQ := Lib.hid (fun w' (k : Below wr.heap.size wr w') => none_dropped (none) w' (HNA.out.below k))
          have HCQ := Lib.hid (fun w' (k : Below wr.heap.size wr w') => none_count (none) w' (HNA.out.below k))
          clear HNA HNB HD
          unfold npV at *
          dsimp only [Option.map] at *
          go_wp2_with (fail)
          refine HDQ.out.mono ?_
          rintro r w1 ⟨rfl, hb1⟩
          have HB1 := Lib.hid hb1
          clear hb1
          go_wp2_with (fail)
          refine (HOQ.out w1 HB1.out).mono ?_
          rintro r w2 ⟨rfl, rfl⟩
          go_wp2_with (fail)
          refine (HNQ.out w1 HB1.out).mono ?_
          rintro r w2 ⟨rfl, rfl⟩
          go_wp2_with (fail)
          refine (HRQ.out w1 HB1.out).mono ?_
          rintro r w2 ⟨rfl, rfl⟩
          go_wp2_with (fail)
          refine (HCQ.out w1 HB1.out).mono ?_
          rintro r w2 ⟨rfl, rfl⟩
          go_wp2_with (fail)
          exact ⟨⟨1, none, by omega, rfl, rfl, .inl rfl, bl_then HBL.out HB1.out⟩, by simp [intOf]⟩
        · skip
          have HDQ := Lib.hid (HD.out (some (w.heap.size + 1)) wr HNB.out)
          have HOQ := Lib.hid (fun w' (k : Below wr.heap.size wr w') => none_open (some (w.heap.size + 1)) op key w' (HNB.out.below k))
          have HNQ := Lib.hid (fun w' (k : Below wr.heap.size wr w') => none_now (some (w.heap.size + 1)) w' (HNB.out.below k))
          have HRQ := Lib.hid (fun w' (k : Below wr.heap.size wr w') => none_dropped (some (w.heap.size + 1)) w' (HNB.out.below k))
          have HCQ := Lib.hid (fun w' (k : Below wr.heap.size wr w') => none_count (some (w.heap.size + 1)) w' (HNB.out.below k))
          clear HNA HNB HD
          unfold npV at *
          dsimp only [Option.map] at *
          go_wp2_with (fail)
          refine HDQ.out.mono ?_
          rintro r w1 ⟨rfl, hb1⟩
          have HB1 := Lib.hid hb1
          clear hb1
          go_wp2_with (fail)
          refine (HOQ.out w1 HB1.out).mono ?_
          rintro r w2 ⟨rfl, rfl⟩
          go_wp2_with (fail)
          refine (HNQ.out w1 HB1.out).mono ?_
          rintro r w2 ⟨rfl, rfl⟩
          go_wp2_with (fail)
          refine (HRQ.out w1 HB1.out).mono ?_
          rintro r w2 ⟨rfl, rfl⟩
          go_wp2_with (fail)
          refine (HCQ.out w1 HB1.out).mono ?_
          rintro r w2 ⟨rfl, rfl⟩
          go_wp2_with (fail)
          exact ⟨⟨1, some (w.heap.size + 1), by omega, rfl, rfl, .inr rfl, bl_then HBL.out HB1.out⟩, by simp [intOf]⟩
    · have h2' : ¬ (i : Int) < 2 := by omega
      clear hp
      go_wp2_with (fail)
      refine (AW wr).mono ?_
      rintro e w' ⟨rfl, hb⟩
      have HB2 := Lib.hid (bl_then (bl_then HB.out HBL.out) hb)
      clear hb
      go_wp2_with (fail)
      go_ret
      exact ⟨rfl, HB2.out⟩
end Go.Proofs.YtfojblbnhapedaaGreatDoor
