/- Contract of marks.least. Conditions: as each theorem states them. -/
import Derived.Test.YtfojblbnhapedaaGreatDoorB4
import Derived.ChangeKeysEq
import Derived.Deep.MidRow
namespace Go.Proofs.YtfojblbnhapedaaGreatDoor
open Go.RowKit
set_option linter.unusedVariables false
set_option linter.unusedSimpArgs false

abbrev Src := Int × Bool
def scells (l : List Src) : List Value := l.flatMap fun p => [.int .i64 p.1, .bool p.2]
theorem scells_len (l : List Src) : (scells l).length = l.length * 2 := by
  induction l with
  | nil => rfl
  | cons a l ih =>
    unfold scells at *
    rw [List.flatMap_cons, List.length_append, ih, List.length_cons]
    simp
    omega
theorem scells_drop : ∀ (l : List Src) (i : Nat) (h : i < l.length), ((scells l).drop (i * 2)).take 2 = [.int .i64 (l[i]).1, .bool (l[i]).2]
  | [], i, h => absurd h (Nat.not_lt_zero _)
  | a :: l, 0, h => rfl
  | a :: l, i + 1, h => by
    have ih := scells_drop l i (by simpa using h)
    rw [show (i + 1) * 2 = i * 2 + 2 from by omega]
    exact ih
theorem u124 : Tryz.prog.underlying 124 = some (.array 16 123) := by kernel_rfl
theorem u123 : Tryz.prog.underlying 123 = some (.struct (Tryz.prog.fieldsOf 123)) := by kernel_rfl
theorem c123 : Tryz.prog.cellsOf 123 = 2 := by kernel_rfl
theorem eq_src (n : Nat) (w : World) (a c : Int) (b d : Bool) : (Op.equalIn (n + 1 + 1) 123 (.agg #[.int .i64 a, .bool b]) (.agg #[.int .i64 c, .bool d])).run Tryz.prog w = .ok (decide (((a, b) : Src) = (c, d))) w := by
  have hu := u123
  have hs : Tryz.prog.stoodInHeld 123 = false := by kernel_rfl
  rw [run_equalIn_agg (P := Tryz.prog) w (n + 1) 123 _ _ hu hs]
  have hf : (Tryz.prog.fieldsOf 123).toList.map (fun f => (f.name, f.type, f.offset)) = [("mark", 2, 0), ("idle", 4, 1)] := by kernel_rfl
  have u2 : Tryz.prog.underlying 2 = some (.int .i64) := by kernel_rfl
  have u4 : Tryz.prog.underlying 4 = some .bool := by kernel_rfl
  have p2 : Tryz.prog.plainKey 2 = true := by kernel_rfl
  have p4 : Tryz.prog.plainKey 4 = true := by kernel_rfl
  generalize (Tryz.prog.fieldsOf 123).toList = fs at *
  obtain ⟨f1, f2, rfl⟩ : ∃ f1 f2, fs = [f1, f2] := by
    rcases fs with _ | ⟨f1, _ | ⟨f2, _ | ⟨f3, r⟩⟩⟩
    · simp at hf
    · simp at hf
    · exact ⟨_, _, rfl⟩
    · simp at hf
  simp only [List.map_cons, List.map_nil, List.cons.injEq, Prod.mk.injEq, and_true] at hf
  obtain ⟨⟨a1, a2, a3⟩, ⟨b1, b2, b3⟩⟩ := hf
  have q1 : ∀ (x : Int) (y : Bool), (part 2 #[.int .i64 x, .bool y] 0).run Tryz.prog w = .ok (.int .i64 x) w := fun x y => run_part_plain (P := Tryz.prog) w p2 (xs := #[.int .i64 x, .bool y]) (off := 0) rfl
  have q2 : ∀ (x : Int) (y : Bool), (part 4 #[.int .i64 x, .bool y] 1).run Tryz.prog w = .ok (.bool y) w := fun x y => run_part_plain (P := Tryz.prog) w p4 (xs := #[.int .i64 x, .bool y]) (off := 1) rfl
  have e1 : (Op.equalIn (n + 1) 2 (.int .i64 a) (.int .i64 c)).run Tryz.prog w = .ok (a == c) w := by
    simp only [Op.equalIn, Sem.run_bind, run_underlying u2, Result.andThen_ok, if_true, Sem.run_pure]
  have e2 : (Op.equalIn (n + 1) 4 (.bool b) (.bool d)).run Tryz.prog w = .ok (b == d) w := by
    simp only [Op.equalIn, Sem.run_bind, run_underlying u4, Result.andThen_ok, Sem.run_pure]
  have n1 : ("mark" ≠ "_") := by decide
  have n2 : ("idle" ≠ "_") := by decide
  simp only [Op.eqFields, a1, a2, a3, b1, b2, b3, Sem.run_bind, q1, q2, Result.andThen_ok, e1, e2, n1, n2, ne_eq, not_false_eq_true, if_true]
  by_cases h1 : a = c
  · subst h1
    by_cases h2 : b = d
    · subst h2
      simp [q2, e2, Op.eqFields]
    · simp [h2, q2, e2]
  · simp [h1]
theorem scells_part (w : World) (l : List Src) (i : Nat) (h : i < l.length) : (part 123 (scells l).toArray (i * 2)).run Tryz.prog w = .ok (.agg #[.int .i64 (l[i]).1, .bool (l[i]).2]) w := by
  have hd := scells_drop l i h
  have h2 := scells_len l
  have ha : (isAgg 123).run Tryz.prog w = .ok true w := by kernel_rfl
  have hs : (sizeOf 123).run Tryz.prog w = .ok 2 w := by kernel_rfl
  simp only [part, Sem.run_bind, ha, Result.andThen_ok, if_true, hs, Sem.run_pure]
  have e : (scells l).toArray.extract (i * 2) (i * 2 + 2) = #[.int .i64 (l[i]).1, .bool (l[i]).2] := by
    rw [List.extract_toArray, List.extract_eq_take_drop, show i * 2 + 2 - i * 2 = 2 from by omega, hd]
  rw [e]
theorem eq_items (n : Nat) (w : World) (l m : List Src) : ∀ (is : List Nat), (∀ i ∈ is, i < l.length ∧ i < m.length) → (Op.eqItems (n + 1 + 1) 123 2 (scells l).toArray (scells m).toArray is).run Tryz.prog w = .ok (decide (∀ i ∈ is, l[i]? = m[i]?)) w
  | [], _ => by simp [Op.eqItems]
  | i :: is, h => by
    obtain ⟨h1, h2⟩ := h i (List.mem_cons_self ..)
    have ih := eq_items n w l m is (fun j hj => h j (List.mem_cons_of_mem _ hj))
    simp only [Op.eqItems, Sem.run_bind, scells_part w l i h1, scells_part w m i h2, Result.andThen_ok, eq_src]
    by_cases e : l[i] = m[i]
    · have e2 : decide ((((l[i]).1, (l[i]).2) : Src) = ((m[i]).1, (m[i]).2)) = true := decide_eq_true (by rw [e])
      rw [e2]
      simp only [Bool.not_true, Bool.false_eq_true, if_false, ih]
      have e3 : l[i]? = m[i]? := by rw [List.getElem?_eq_getElem h1, List.getElem?_eq_getElem h2, e]
      simp [e3]
    · have e2 : decide ((((l[i]).1, (l[i]).2) : Src) = ((m[i]).1, (m[i]).2)) = false := decide_eq_false (fun h => e h)
      rw [e2]
      have e3 : ¬ l[i]? = m[i]? := by rw [List.getElem?_eq_getElem h1, List.getElem?_eq_getElem h2]; simpa using e
      simp [e3]
theorem eql_srcs (w : World) (l m : List Src) (hl : l.length = 16) (hm : m.length = 16) : (binOp .eql 124 (.agg (scells l).toArray) (.agg (scells m).toArray)).run Tryz.prog w = .ok (.bool (decide (l = m))) w := by
  obtain ⟨i, hi⟩ : ∃ i, Tryz.prog.info? 123 = some i := by
    have h : (Tryz.prog.info? 123).isSome = true := by kernel_rfl
    exact Option.isSome_iff_exists.1 h
  rw [run_eql_struct (P := Tryz.prog)]
  rw [show (10000 : Nat) = 9999 + 1 from rfl, run_equalIn_array (P := Tryz.prog) w 9999 _ _ u124 hi, c123, show (9999 : Nat) = 9997 + 1 + 1 from rfl, eq_items 9997 w l m (List.range 16) (fun i hi => by rw [List.mem_range] at hi; omega)]
  simp only [Result.andThen_ok]
  have e : (∀ i ∈ List.range 16, l[i]? = m[i]?) ↔ l = m := by
    constructor
    · intro h
      apply List.ext_getElem?
      intro i
      by_cases hi : i < 16
      · exact h i (List.mem_range.2 hi)
      · rw [List.getElem?_eq_none (by omega), List.getElem?_eq_none (by omega)]
    · intro h i _
      rw [h]
  simp only [e]
end Go.Proofs.YtfojblbnhapedaaGreatDoor
namespace Go.Proofs.YtfojblbnhapedaaGreatDoor
open Go.RowKit
set_option linter.unusedVariables false
set_option linter.unusedSimpArgs false

/-- How far the times of several sources have come. -/
structure Mk where
  n : Nat
  bound : Int
  all : List Src
  now : Int
def mkcells (m : Mk) : Array Value := (.int .i64 m.n :: .int .i64 m.bound :: (scells m.all ++ [.int .i64 m.now])).toArray
structure OkM (m : Mk) : Prop where
  n1 : 1 ≤ m.n
  n2 : m.n ≤ 16
  len : m.all.length = 16
  b1 : 0 ≤ m.bound
  b2 : m.bound ≤ 1099511627776
  ms : ∀ p ∈ m.all, -1127000000000000 ≤ p.1 ∧ p.1 ≤ 1125899906842624
  now1 : -1125899906842624 ≤ m.now
  now2 : m.now ≤ 1125899906842624
def MkAt (w : World) (b : Nat) (m : Mk) : Prop := w.heap[b]? = some (Obj.cells (mkcells m) 126)
def ptrV (b : Nat) : Value := .pointer (some ⟨b, 0, none⟩)
theorem MkAt.lt {w : World} {b : Nat} {m : Mk} (h : MkAt w b m) : b < w.heap.size := (Array.getElem?_eq_some_iff.1 h).1
theorem MkAt.below {w w' : World} {b : Nat} {m : Mk} (h : MkAt w b m) (k : Below w.heap.size w w') : MkAt w' b m := (k.block b h.lt).trans h
theorem scells_at {l : List Src} {i : Nat} (h : i < l.length) : (scells l)[i * 2]? = some (.int .i64 (l[i]).1) ∧ (scells l)[i * 2 + 1]? = some (.bool (l[i]).2) := by
  have hd := scells_drop l i h
  have h0 : (((scells l).drop (i * 2)).take 2)[0]? = some (.int .i64 (l[i]).1) := by rw [hd]; rfl
  have h1 : (((scells l).drop (i * 2)).take 2)[1]? = some (.bool (l[i]).2) := by rw [hd]; rfl
  rw [List.getElem?_take_of_lt (by omega), List.getElem?_drop] at h0 h1
  exact ⟨by simpa using h0, h1⟩
theorem MkAt.c {w : World} {b : Nat} {m : Mk} (h : MkAt w b m) : w.cell? ⟨b, 0, none⟩ = some (.int .i64 m.n) ∧ w.cell? ⟨b, 1, none⟩ = some (.int .i64 m.bound) := ⟨cell_of h 0, cell_of h 1⟩
theorem MkAt.src {w : World} {b : Nat} {m : Mk} (h : MkAt w b m) {i : Nat} (hi : i < m.all.length) : w.cell? ⟨b, 2 + i * 2, none⟩ = some (.int .i64 (m.all[i]).1) ∧ w.cell? ⟨b, 2 + i * 2 + 1, none⟩ = some (.bool (m.all[i]).2) := by
  obtain ⟨h1, h2⟩ := scells_at hi
  have hl := scells_len m.all
  constructor
  · rw [cell_of h]
    unfold mkcells
    rw [List.getElem?_toArray, show 2 + i * 2 = i * 2 + 1 + 1 from by omega, List.getElem?_cons_succ, List.getElem?_cons_succ, List.getElem?_append_left (by omega)]
    exact h1
  · rw [cell_of h]
    unfold mkcells
    rw [List.getElem?_toArray, show 2 + i * 2 + 1 = i * 2 + 1 + 1 + 1 from by omega, List.getElem?_cons_succ, List.getElem?_cons_succ, List.getElem?_append_left (by omega)]
    exact h2
theorem MkAt.nowc {w : World} {b : Nat} {m : Mk} (h : MkAt w b m) (hl : m.all.length = 16) : w.cell? ⟨b, 34, none⟩ = some (.int .i64 m.now) := by
  rw [cell_of h]
  unfold mkcells
  have h2 := scells_len m.all
  rw [List.getElem?_toArray, List.getElem?_cons_succ, List.getElem?_cons_succ, List.getElem?_append_right (by omega)]
  rw [show 32 - (scells m.all).length = 0 from by omega]
  rfl
theorem MkAt.fz {w : World} {b : Nat} {m : Mk} (h : MkAt w b m) (i : Nat) : w.frozen? ⟨b, i, none⟩ = false := froz_of h i
set_option maxRecDepth 100000 in
theorem mnow_any (b : Nat) (m : Mk) (w : World) (h : MkAt w b m) (ok : OkM m) : Calls Tryz.prog 38 #[ptrV b] w fun e w' => e = .returned (.int .i64 m.now) ∧ w = w' := by
  have c := h.nowc ok.len
  have hl := h.lt
  unfold ptrV
  clear h ok
  go_enter Tryz.func38, Tryz.ntmps38
  go_wp2_with (fail)
  go_ret
  exact ⟨rfl, rfl⟩
/-- What stands against a source and a time. -/
def askV (m : Mk) (k : Int) (t : Int) : Int := if k < 0 ∨ (m.n : Int) ≤ k ∨ t < -1125899906842624 ∨ 1125899906842624 < t then 2 else 0
set_option maxRecDepth 100000 in
set_option maxHeartbeats 1000000 in
theorem asked_any (b : Nat) (m : Mk) (k t : Int) (w : World) (h : MkAt w b m) (ok : OkM m) : Calls Tryz.prog 63 #[ptrV b, .int .i64 k, .int .i64 t] w fun e w' => e = .returned (.int .i64 (askV m k t)) ∧ w = w' := by
  have c := h.c.1
  have hl := h.lt
  have hn := ok.n1
  obtain ⟨n, hnn⟩ : ∃ n, m.n = n := ⟨_, rfl⟩
  rw [hnn] at c hn
  obtain ⟨R, hR⟩ : ∃ R, askV m k t = R := ⟨_, rfl⟩
  rw [hR]
  have HR : Hid (R = if k < 0 ∨ (n : Int) ≤ k ∨ t < -1125899906842624 ∨ 1125899906842624 < t then 2 else 0) := Lib.hid (by rw [← hR, ← hnn]; rfl)
  unfold ptrV
  have hn0 : ¬ (n : Int) = 0 := by omega
  have hn1 : (1 : Int) ≤ (n : Int) := by omega
  clear h ok hR hnn
  go_enter Tryz.func63, Tryz.ntmps63
  go_wp2_with (fail)
  all_goals (
    go_ret
    refine ⟨?_, rfl⟩
    first
    | (have e : R = 2 := by rw [HR.out, if_pos (by simp at *; omega)]
       rw [e]
       rfl)
    | (have e : R = 0 := by rw [HR.out, if_neg (by simp at *; omega)]
       rw [e]
       rfl))
end Go.Proofs.YtfojblbnhapedaaGreatDoor
namespace Go.Proofs.YtfojblbnhapedaaGreatDoor
open Go.RowKit
set_option linter.unusedVariables false
set_option linter.unusedSimpArgs false

/-- The least mark of those that are not idle, one source more. -/
def lstep (a : Int × Bool) (s : Src) : Int × Bool := if s.2 = false ∧ (a.2 = false ∨ s.1 < a.1) then (s.1, true) else a
def leastF (l : List Src) : Int × Bool := l.foldl lstep (0, false)
theorem leastF_take {l : List Src} {i : Nat} (h : i < l.length) : leastF (l.take (i + 1)) = lstep (leastF (l.take i)) l[i] := by
  unfold leastF
  rw [List.take_succ_eq_append_getElem h, List.foldl_append]
  rfl
set_option maxRecDepth 100000 in
set_option maxHeartbeats 4000000 in
theorem least_any (b : Nat) (m : Mk) (w : World) (h : MkAt w b m) (ok : OkM m) :
    Calls Tryz.prog 86 #[ptrV b] w fun e w' => e = .returned (.tuple #[.int .i64 (leastF (m.all.take m.n)).1, .bool (leastF (m.all.take m.n)).2]) ∧ Below w.heap.size w w' := by
  have H := Lib.hid h
  have OK := Lib.hid ok
  have c0 := ext_cell h.c.1
  have hl := h.lt
  obtain ⟨n, hn⟩ : ∃ n, m.n = n := ⟨_, rfl⟩
  have HN := Lib.hid hn
  have hn1 : (1 : Int) ≤ (n : Int) := by have := ok.n1; omega
  have hn0 : (0 : Int) ≤ (n : Int) := by omega
  have hn2 : (n : Int) ≤ 16 := by have := ok.n2; omega
  have hnn : n ≤ 16 := by omega
  rw [hn] at c0 ⊢
  obtain ⟨R, hR⟩ : ∃ R, leastF (m.all.take n) = R := ⟨_, rfl⟩
  have HR := Lib.hid hR
  rw [hR]
  unfold ptrV
  clear h ok hn hR
  go_enter Tryz.func86, Tryz.ntmps86
  go_wp2_with (fail)
  refine wp_region_ext (by kernel_rfl) (by kernel_rfl) ?_
  repeat (go_big_quiet_step (fail))
  refine wpQuiet_nil ?_
  rintro w8 ⟨⟨_, hb8⟩, rfl⟩
  have HB8 := Lib.hid hb8
  clear hb8 c0
  go_wp2_with (fail)
  go_loopw [2, 3, 15] (fun vl vo vi wr => ∃ i : Nat, i ≤ n ∧ vi = .int .i64 i ∧ vl = .int .i64 (leastF (m.all.take i)).1 ∧ vo = .bool (leastF (m.all.take i)).2 ∧ Below w.heap.size w wr) (fun _ _ i _ => n - (intOf i).toNat)
  case atStart => exact ⟨0, Nat.zero_le _, rfl, rfl, rfl, HB8.out⟩
  case round =>
    obtain ⟨i, hin, rfl, rfl, rfl, hbl⟩ := hrel
    have HBL := Lib.hid hbl
    have hm := H.out.below hbl
    have hlr := hm.lt
    by_cases hi : i < n
    · have hi0 : (0 : Int) ≤ (i : Int) := by omega
      have hi1 : (i : Int) < (n : Int) := by omega
      have hil : i < m.all.length := by rw [OK.out.len]; omega
      obtain ⟨s0, s1⟩ := hm.src hil
      have HT := Lib.hid (leastF_take hil)
      obtain ⟨⟨mk, idle⟩, hs⟩ : ∃ s, m.all[i] = s := ⟨_, rfl⟩
      rw [hs] at s0 s1 HT
      obtain ⟨⟨ls, lo⟩, ha⟩ : ∃ a, leastF (m.all.take i) = a := ⟨_, rfl⟩
      rw [ha] at HT ⊢
      dsimp only at s0 s1 ⊢
      have HB1 := Lib.hid (HBL.out.trans ((bl_alloc (Below.refl wr.heap.size wr) (Obj.cells #[.int .i64 mk, .bool idle] 123)).mono HBL.out.size))
      clear hbl hm hil hs ha
      cases idle with
      | true =>
        have HL : Hid (leastF (m.all.take (i + 1)) = (ls, lo)) := Lib.hid (by rw [HT.out]; unfold lstep; rw [if_neg (by simp)])
        go_wp2_with (fail)
        exact ⟨⟨i + 1, by omega, by push_cast; rfl, by rw [HL.out], by rw [HL.out], HB1.out⟩, by simp [intOf]; omega⟩
      | false =>
        cases lo with
        | false =>
          have HL : Hid (leastF (m.all.take (i + 1)) = (mk, true)) := Lib.hid (by rw [HT.out]; unfold lstep; rw [if_pos (by simp)])
          go_wp2_with (fail)
          exact ⟨⟨i + 1, by omega, by push_cast; rfl, by rw [HL.out], by rw [HL.out], HB1.out⟩, by simp [intOf]; omega⟩
        | true =>
          by_cases hlt : mk < ls
          · have HL : Hid (leastF (m.all.take (i + 1)) = (mk, true)) := Lib.hid (by rw [HT.out]; unfold lstep; rw [if_pos (by simp [hlt])])
            go_wp2_with (fail)
            exact ⟨⟨i + 1, by omega, by push_cast; rfl, by rw [HL.out], by rw [HL.out], HB1.out⟩, by simp [intOf]; omega⟩
          · have HL : Hid (leastF (m.all.take (i + 1)) = (ls, true)) := Lib.hid (by rw [HT.out]; unfold lstep; rw [if_neg (by simp; omega)])
            go_wp2_with (fail)
            exact ⟨⟨i + 1, by omega, by push_cast; rfl, by rw [HL.out], by rw [HL.out], HB1.out⟩, by simp [intOf]; omega⟩
    · have hi1 : ¬ (i : Int) < (n : Int) := by omega
      have hie : i = n := by omega
      subst hie
      rw [HR.out]
      clear hbl hm
      go_wp2_with (fail)
      go_ret2
      exact ⟨rfl, HBL.out⟩
end Go.Proofs.YtfojblbnhapedaaGreatDoor
