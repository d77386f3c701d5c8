/- Contracts of of and only. Conditions: as each theorem states them. -/
import Derived.Test.YtfojblbnhapedaaGreatDoorX9
import Derived.MapKept
namespace Go.Proofs.YtfojblbnhapedaaGreatDoor
open Go.RowKit Go.Maps
set_option linter.unusedVariables false
set_option linter.unusedSimpArgs false

/-- An output as it is told. -/
structure Ou where
  op : Int
  key : ByteArray
  f : Int
  t : Int
  s : ByteArray
  again : Bool
deriving DecidableEq
def ouA (o : Ou) : Array Value := #[.int .i64 o.op, .string o.key, .int .i64 o.f, .int .i64 o.t, .string o.s, .bool o.again]
theorem ouA_inj {a b : Ou} (h : ouA a = ouA b) : a = b := by
  obtain ⟨a1, a2, a3, a4, a5, a6⟩ := a
  obtain ⟨b1, b2, b3, b4, b5, b6⟩ := b
  unfold ouA at h
  simp only [Array.mk.injEq, List.cons.injEq, Value.int.injEq, Value.string.injEq, Value.bool.injEq, true_and, and_true] at h
  obtain ⟨rfl, rfl, rfl, rfl, rfl, rfl⟩ := h
  rfl
theorem u56 : Tryz.prog.underlying 56 = some (.struct (Tryz.prog.fieldsOf 56)) := by kernel_rfl
theorem u54s : Tryz.prog.underlying 54 = some (.struct (Tryz.prog.fieldsOf 54)) := by kernel_rfl
theorem list5' {α : Type} {l : List α} (h : l.length = 5) : ∃ a b c d e, l = [a, b, c, d, e] := by
  match l, h with
  | [a, b, c, d, e], _ => exact ⟨a, b, c, d, e, rfl⟩
theorem eq_win (n : Nat) (w : World) (a c b d : Int) : (Op.equalIn (n + 1 + 1) 54 (.agg #[.int .i64 a, .int .i64 b]) (.agg #[.int .i64 c, .int .i64 d])).run Tryz.prog w = .ok (decide ((a, b) = (c, d))) w := by
  have hu := u54s
  have hs : Tryz.prog.stoodInHeld 54 = false := by kernel_rfl
  rw [run_equalIn_agg (P := Tryz.prog) w (n + 1) 54 _ _ hu hs]
  have hf : (Tryz.prog.fieldsOf 54).toList.map (fun f => (f.name, f.type, f.offset)) = [("From", 2, 0), ("To", 2, 1)] := by kernel_rfl
  have u2 : Tryz.prog.underlying 2 = some (.int .i64) := by kernel_rfl
  have p2 : Tryz.prog.plainKey 2 = true := by kernel_rfl
  generalize (Tryz.prog.fieldsOf 54).toList = fs at *
  obtain ⟨f1, f2, rfl⟩ : ∃ f1 f2, fs = [f1, f2] := by
    rcases fs with _ | ⟨f1, _ | ⟨f2, _ | ⟨f3, r⟩⟩⟩
    · simp at hf
    · simp at hf
    · exact ⟨_, _, rfl⟩
    · simp at hf
  simp only [List.map_cons, List.map_nil, List.cons.injEq, Prod.mk.injEq, and_true] at hf
  obtain ⟨⟨a1, a2, a3⟩, ⟨b1, b2, b3⟩⟩ := hf
  have q1 : ∀ (x y : Int), (part 2 #[.int .i64 x, .int .i64 y] 0).run Tryz.prog w = .ok (.int .i64 x) w := fun x y => run_part_plain (P := Tryz.prog) w p2 (xs := #[.int .i64 x, .int .i64 y]) (off := 0) rfl
  have q2 : ∀ (x y : Int), (part 2 #[.int .i64 x, .int .i64 y] 1).run Tryz.prog w = .ok (.int .i64 y) w := fun x y => run_part_plain (P := Tryz.prog) w p2 (xs := #[.int .i64 x, .int .i64 y]) (off := 1) rfl
  have e1 : ∀ x y : Int, (Op.equalIn (n + 1) 2 (.int .i64 x) (.int .i64 y)).run Tryz.prog w = .ok (x == y) w := fun x y => by
    simp only [Op.equalIn, Sem.run_bind, run_underlying u2, Result.andThen_ok, if_true, Sem.run_pure]
  have n1 : ("From" ≠ "_") := by decide
  have n2 : ("To" ≠ "_") := by decide
  simp only [Op.eqFields, a1, a2, a3, b1, b2, b3, Sem.run_bind, q1, q2, Result.andThen_ok, e1, n1, n2, ne_eq, not_false_eq_true, if_true]
  by_cases h1 : a = c
  · subst h1
    by_cases h2 : b = d
    · subst h2
      simp [q2, e1, Op.eqFields]
    · simp [h2, q2, e1]
  · simp [h1]
theorem eq_ou (n : Nat) (w : World) (a b : Ou) : (Op.equalIn (n + 1 + 1 + 1) 56 (.agg (ouA a)) (.agg (ouA b))).run Tryz.prog w = .ok (decide (a = b)) w := by
  have hu := u56
  have hs : Tryz.prog.stoodInHeld 56 = false := by kernel_rfl
  rw [run_equalIn_agg (P := Tryz.prog) w (n + 1 + 1) 56 _ _ hu hs]
  have hf : (Tryz.prog.fieldsOf 56).toList.map (fun f => (f.name, f.type, f.offset)) = [("Op", 3, 0), ("Key", 9, 1), ("Window", 54, 2), ("Value", 9, 4), ("Again", 4, 5)] := by kernel_rfl
  have u3 : Tryz.prog.underlying 3 = some (.int .i64) := by kernel_rfl
  have u9 : Tryz.prog.underlying 9 = some .string := by kernel_rfl
  have u4 : Tryz.prog.underlying 4 = some .bool := by kernel_rfl
  have p3 : Tryz.prog.plainKey 3 = true := by kernel_rfl
  have p9 : Tryz.prog.plainKey 9 = true := by kernel_rfl
  have p4 : Tryz.prog.plainKey 4 = true := by kernel_rfl
  have ha : (isAgg 54).run Tryz.prog w = .ok true w := by kernel_rfl
  have hz : (sizeOf 54).run Tryz.prog w = .ok 2 w := by kernel_rfl
  have hl : (Tryz.prog.fieldsOf 56).toList.length = 5 := by have := congrArg List.length hf; simpa using this
  generalize (Tryz.prog.fieldsOf 56).toList = fs at *
  obtain ⟨f1, f2, f3, f4, f5, rfl⟩ := list5' hl
  simp only [List.map_cons, List.map_nil, List.cons.injEq, Prod.mk.injEq, and_true] at hf
  obtain ⟨⟨a1, a2, a3⟩, ⟨b1, b2, b3⟩, ⟨c1, c2, c3⟩, ⟨d1, d2, d3⟩, ⟨g1, g2, g3⟩⟩ := hf
  have q1 : ∀ o : Ou, (part 3 (ouA o) 0).run Tryz.prog w = .ok (.int .i64 o.op) w := fun o => run_part_plain (P := Tryz.prog) w p3 (xs := ouA o) (off := 0) rfl
  have q2 : ∀ o : Ou, (part 9 (ouA o) 1).run Tryz.prog w = .ok (.string o.key) w := fun o => run_part_plain (P := Tryz.prog) w p9 (xs := ouA o) (off := 1) rfl
  have q3 : ∀ o : Ou, (part 54 (ouA o) 2).run Tryz.prog w = .ok (.agg #[.int .i64 o.f, .int .i64 o.t]) w := fun o => by
    simp only [part, Sem.run_bind, ha, Result.andThen_ok, if_true, hz, Sem.run_pure]
    rfl
  have q4 : ∀ o : Ou, (part 9 (ouA o) 4).run Tryz.prog w = .ok (.string o.s) w := fun o => run_part_plain (P := Tryz.prog) w p9 (xs := ouA o) (off := 4) rfl
  have q5 : ∀ o : Ou, (part 4 (ouA o) 5).run Tryz.prog w = .ok (.bool o.again) w := fun o => run_part_plain (P := Tryz.prog) w p4 (xs := ouA o) (off := 5) rfl
  have e1 : ∀ x y : Int, (Op.equalIn (n + 1 + 1) 3 (.int .i64 x) (.int .i64 y)).run Tryz.prog w = .ok (x == y) w := fun x y => by
    simp only [Op.equalIn, Sem.run_bind, run_underlying u3, Result.andThen_ok, if_true, Sem.run_pure]
  have e2 : ∀ x y : ByteArray, (Op.equalIn (n + 1 + 1) 9 (.string x) (.string y)).run Tryz.prog w = .ok (decide (x = y)) w := fun x y => by
    simp only [Op.equalIn, Sem.run_bind, run_underlying u9, Result.andThen_ok, if_true, Sem.run_pure]
    have hxy : (x == y) = decide (x = y) := by
      rw [Bool.eq_iff_iff]
      rw [decide_eq_true_iff]
      exact Go.MapKept.bytes_beq x y
    rw [hxy]
  have e4 : ∀ x y : Bool, (Op.equalIn (n + 1 + 1) 4 (.bool x) (.bool y)).run Tryz.prog w = .ok (x == y) w := fun x y => by
    simp only [Op.equalIn, Sem.run_bind, run_underlying u4, Result.andThen_ok, Sem.run_pure]
  have e3 := fun x1 x2 y1 y2 => eq_win n w x1 y1 x2 y2
  have n1 : ("Op" ≠ "_") := by decide
  have n2 : ("Key" ≠ "_") := by decide
  have n3 : ("Window" ≠ "_") := by decide
  have n4 : ("Value" ≠ "_") := by decide
  have n5 : ("Again" ≠ "_") := by decide
  have hd : decide (a = b) = (a.op == b.op && decide (a.key = b.key) && decide ((a.f, a.t) = (b.f, b.t)) && decide (a.s = b.s) && a.again == b.again) := by
    obtain ⟨x1, x2, x3, x4, x5, x6⟩ := a
    obtain ⟨y1, y2, y3, y4, y5, y6⟩ := b
    rw [Bool.eq_iff_iff]
    simp only [decide_eq_true_eq, Bool.and_eq_true, beq_iff_eq, Ou.mk.injEq, Prod.mk.injEq]
    constructor
    · rintro ⟨h1, h2, h3, h4, h5, h6⟩; exact ⟨⟨⟨⟨h1, h2⟩, h3, h4⟩, h5⟩, h6⟩
    · rintro ⟨⟨⟨⟨h1, h2⟩, h3, h4⟩, h5⟩, h6⟩; exact ⟨h1, h2, h3, h4, h5, h6⟩
  rw [hd]
  simp only [Op.eqFields, a1, a2, a3, b1, b2, b3, c1, c2, c3, d1, d2, d3, g1, g2, g3, Sem.run_bind, q1, Result.andThen_ok, e1, n1, ne_eq, not_false_eq_true, if_true]
  have E1 := e1 a.op b.op
  have E2 := e2 a.key b.key
  have E3 := e3 a.f a.t b.f b.t
  have E4 := e2 a.s b.s
  have E5 := e4 a.again b.again
  generalize (a.op == b.op) = t1 at *
  generalize decide (a.key = b.key) = t2 at *
  generalize decide ((a.f, a.t) = (b.f, b.t)) = t3 at *
  generalize decide (a.s = b.s) = t4 at *
  generalize (a.again == b.again) = t5 at *
  clear hd e1 e2 e3 e4
  cases t1
  · simp [q1, E1]
  cases t2
  · simp [q1, E1, q2, E2]
  cases t3
  · simp [q1, E1, q2, E2, q3, E3]
  cases t4
  · simp [q1, E1, q2, E2, q3, E3, q4, E4]
  cases t5
  · simp [q1, E1, q2, E2, q3, E3, q4, E4, q5, E5, Op.eqFields]
  · simp [q1, E1, q2, E2, q3, E3, q4, E4, q5, E5, Op.eqFields]
theorem neq_ou (w : World) (a b : Ou) : (binOp .neq 56 (.agg (ouA a)) (.agg (ouA b))).run Tryz.prog w = .ok (.bool (decide (a ≠ b))) w := by
  rw [run_neq_struct (P := Tryz.prog), show (10000 : Nat) = 9997 + 1 + 1 + 1 from rfl, eq_ou 9997 w a b]
  simp only [Result.andThen_ok]
  by_cases h : a = b <;> simp [h]
theorem eql_ou (w : World) (a b : Ou) : (binOp .eql 56 (.agg (ouA a)) (.agg (ouA b))).run Tryz.prog w = .ok (.bool (decide (a = b))) w := by
  rw [run_eql_struct (P := Tryz.prog), show (10000 : Nat) = 9997 + 1 + 1 + 1 from rfl, eq_ou 9997 w a b]
  simp only [Result.andThen_ok]
end Go.Proofs.YtfojblbnhapedaaGreatDoor
namespace Go.Proofs.YtfojblbnhapedaaGreatDoor
open Go.RowKit Go.Maps
set_option linter.unusedVariables false
set_option linter.unusedSimpArgs false

def oucells (l : List Ou) : List Value := l.flatMap fun o => [.int .i64 o.op, .string o.key, .int .i64 o.f, .int .i64 o.t, .string o.s, .bool o.again]
theorem oucells_app (l m : List Ou) : oucells (l ++ m) = oucells l ++ oucells m := List.flatMap_append
theorem oucells_at : ∀ (l : List Ou) (i : Nat) (h : i < l.length), (oucells l)[i * 6]? = some (.int .i64 (l[i]).op) ∧ (oucells l)[i * 6 + 1]? = some (.string (l[i]).key) ∧ (oucells l)[i * 6 + 2]? = some (.int .i64 (l[i]).f) ∧ (oucells l)[i * 6 + 3]? = some (.int .i64 (l[i]).t) ∧ (oucells l)[i * 6 + 4]? = some (.string (l[i]).s) ∧ (oucells l)[i * 6 + 5]? = some (.bool (l[i]).again)
  | [], i, h => absurd h (Nat.not_lt_zero _)
  | o :: l, 0, h => ⟨rfl, rfl, rfl, rfl, rfl, rfl⟩
  | o :: l, i + 1, h => by
    have ih := oucells_at l i (by simpa using h)
    have e : ∀ k, (oucells (o :: l))[(i + 1) * 6 + k]? = (oucells l)[i * 6 + k]? := fun k => by
      rw [show (i + 1) * 6 + k = (i * 6 + k) + 6 from by omega]
      rfl
    exact ⟨(e 0).trans ih.1, (e 1).trans ih.2.1, (e 2).trans ih.2.2.1, (e 3).trans ih.2.2.2.1, (e 4).trans ih.2.2.2.2.1, (e 5).trans ih.2.2.2.2.2⟩
theorem oucells_one (l : List Ou) : ∀ u ∈ oucells l, u.oneCell' = true := by
  intro u hu
  obtain ⟨o, _, ho⟩ := List.mem_flatMap.1 hu
  simp only [List.mem_cons, List.not_mem_nil, or_false] at ho
  rcases ho with rfl | rfl | rfl | rfl | rfl | rfl <;> rfl
def otV (F : Int → List Int → ByteArray) (j : Jb) (o : Ot) : Ou := ⟨o.1.op, o.1.key, o.1.f, o.1.t, F (aggJ j o.1.op) o.2.1, o.2.2⟩
theorem otcells_ou (F : Int → List Int → ByteArray) (j : Jb) (l : List Ot) : otcells F j l = oucells (l.map (otV F j)) := by
  unfold otcells oucells
  rw [List.flatMap_map]
  rfl
/-- A slice at A reads as the outputs l. -/
def RdO (w : World) (A : Option Addr) (l : List Ou) : Prop :=
  0 < l.length → ∃ g, A = some ⟨g, 0, none⟩ ∧ g < w.heap.size ∧ ∀ i (h : i < l.length), w.cell? ⟨g, i * 6, none⟩ = some (.int .i64 (l[i]).op) ∧ w.cell? ⟨g, i * 6 + 1, none⟩ = some (.string (l[i]).key) ∧ w.cell? ⟨g, i * 6 + 2, none⟩ = some (.int .i64 (l[i]).f) ∧
    w.cell? ⟨g, i * 6 + 3, none⟩ = some (.int .i64 (l[i]).t) ∧ w.cell? ⟨g, i * 6 + 4, none⟩ = some (.string (l[i]).s) ∧ w.cell? ⟨g, i * 6 + 5, none⟩ = some (.bool (l[i]).again)
theorem RdO.below {w w' : World} {A : Option Addr} {l : List Ou} (h : RdO w A l) (k : Below w.heap.size w w') : RdO w' A l := by
  intro hl
  obtain ⟨g, rfl, hg, hc⟩ := h hl
  refine ⟨g, rfl, Nat.lt_of_lt_of_le hg k.size, fun i hi => ?_⟩
  obtain ⟨h0, h1, h2, h3, h4, h5⟩ := hc i hi
  exact ⟨(k.cell hg).trans h0, (k.cell hg).trans h1, (k.cell hg).trans h2, (k.cell hg).trans h3, (k.cell hg).trans h4, (k.cell hg).trans h5⟩
/-- A row of outputs of the call's own reads as them. -/
theorem own_rdo {w : World} {base : Nat} {v : Value} {l : List Ou} (h : w.ownsRow base 56 6 v l.length (oucells l)) : ∃ A c, v = .slice A l.length c ∧ l.length ≤ c ∧ c ≤ maxLen ∧ RdO w A l := by
  obtain ⟨A, c, hv, h1, h2, hr⟩ := own_read h (by decide)
  refine ⟨A, c, hv, h1, h2, fun hl => ?_⟩
  obtain ⟨g, hA, _, hg, _, hx⟩ := hr hl
  refine ⟨g, hA, hg, fun i hi => ?_⟩
  obtain ⟨h0, h1, h2, h3, h4, h5⟩ := oucells_at l i hi
  exact ⟨hx _ _ h0, hx _ _ h1, hx _ _ h2, hx _ _ h3, hx _ _ h4, hx _ _ h5⟩
theorem take_eq_snoc {α : Type} {l m : List α} {k : Nat} (h1 : k < l.length) (h2 : k < m.length) (he : l.take k = m.take k) : l.take (k + 1) = m.take (k + 1) ↔ l[k] = m[k] := by
  have e1 : l.take (k + 1) = m.take k ++ [l[k]] := by rw [List.take_succ_eq_append_getElem h1, he]
  have e2 : m.take (k + 1) = m.take k ++ [m[k]] := List.take_succ_eq_append_getElem h2
  constructor
  · intro h
    rw [e1, e2] at h
    have h := List.append_cancel_left h
    injection h
  · intro h
    rw [e1, e2, h]
set_option maxRecDepth 100000 in
set_option maxHeartbeats 4000000 in
theorem sameo_any (A A2 : Option Addr) (c c2 : Nat) (l m : List Ou) (w : World) (hA : RdO w A l) (hA2 : RdO w A2 m) (hc : l.length ≤ c) (hc2 : m.length ≤ c2) (hm : c ≤ maxLen) (hm2 : c2 ≤ maxLen) :
    Calls Tryz.prog 20 #[.slice A l.length c, .slice A2 m.length c2] w fun e w' => e = .returned (.bool (decide (l = m))) ∧ Below w.heap.size w w' := by
  by_cases hl : l.length = m.length
  · have HA := Lib.hid hA
    have HA2 := Lib.hid hA2
    have HL := Lib.hid hl
    obtain ⟨n, hn⟩ : ∃ n, n = l.length := ⟨_, rfl⟩
    have hn2 : m.length = n := by omega
    rw [← hn, hn2]
    have HN := Lib.hid hn
    have HN2 := Lib.hid hn2
    have hc : n ≤ c := by omega
    have hc2 : n ≤ c2 := by omega
    unfold maxLen at hm hm2
    clear hA hA2 hn hn2 hl
    go_enter Tryz.func20, Tryz.ntmps20
    go_wp2_with (fail)
    go_loopw [5] (fun i wr => ∃ k : Nat, k ≤ n ∧ i = .int .i64 k ∧ l.take k = m.take k ∧ Below w.heap.size w wr) (fun i _ => n - (intOf i).toNat)
    case atStart => exact ⟨0, Nat.zero_le _, rfl, rfl, Below.refl _ _⟩
    case round =>
      obtain ⟨k, hk, rfl, he, hbl⟩ := hrel
      have HB := Lib.hid hbl
      have HBD := Lib.hid hbl.drew
      by_cases hlt : k < n
      · have h1 : k < l.length := by have := HN.out; omega
        have h2 : k < m.length := by have := HN2.out; omega
        obtain ⟨g, rfl, hg, hx⟩ := (HA.out.below hbl) (by omega)
        obtain ⟨g2, rfl, hg2, hx2⟩ := (HA2.out.below hbl) (by omega)
        obtain ⟨x0, x1, x2, x3, x4, x5⟩ := hx k h1
        obtain ⟨y0, y1, y2, y3, y4, y5⟩ := hx2 k h2
        have HT := Lib.hid (take_eq_snoc h1 h2 he)
        have HNQ : Hid (l = m → l[k] = m[k]) := Lib.hid (fun h => by subst h; rfl)
        have hq := fun W => neq_ou W l[k] m[k]
        unfold ouA at hq
        generalize l[k] = a at *
        generalize m[k] = b at *
        clear hx hx2 he hbl
        by_cases hab : a = b
        · have e : decide (a ≠ b) = false := by simp [hab]
          rw [e] at hq
          have HE := Lib.hid (HT.out.2 hab)
          clear hab e
          go_wp2_with (fail)
          go_region
          go_wp2_with (fail)
          exact ⟨⟨k + 1, hlt, by push_cast; rfl, HE.out, HBD.out⟩, by simp only [intOf]; omega⟩
        · have e : decide (a ≠ b) = true := by simp [hab]
          rw [e] at hq
          have HE : Hid (decide (l = m) = false) := Lib.hid (decide_eq_false fun h => hab (HNQ.out h))
          clear hab e
          go_wp2_with (fail)
          go_region
          go_wp2_with (fail)
          go_ret
          rw [HE.out]
          exact ⟨rfl, HBD.out⟩
      · have hke : k = n := by omega
        subst hke
        have HE : Hid (decide (l = m) = true) := Lib.hid (decide_eq_true (by
          have h1 := HN.out
          have h2 := HN2.out
          rw [List.take_of_length_le (by omega), List.take_of_length_le (by omega)] at he
          exact he))
        clear he hbl
        go_wp2_with (fail)
        go_ret
        rw [HE.out]
        exact ⟨rfl, HB.out⟩
  · have HE : Hid (decide (l = m) = false) := Lib.hid (decide_eq_false fun h => hl (by rw [h]))
    have hl2 : ((l.length : Int) == (m.length : Int)) = false := by simp; omega
    generalize l.length = n at *
    generalize m.length = n2 at *
    clear hA hA2
    go_enter Tryz.func20, Tryz.ntmps20
    go_wp2_with (fail)
    go_ret
    rw [HE.out]
    exact ⟨rfl, Below.refl _ _⟩
end Go.Proofs.YtfojblbnhapedaaGreatDoor
namespace Go.Proofs.YtfojblbnhapedaaGreatDoor
open Go.RowKit Go.Maps
set_option linter.unusedVariables false
set_option linter.unusedSimpArgs false

def ofL (key : ByteArray) (l : List Ou) : List Ou := l.filter fun o => decide (o.key = key)
def onlyL (op : Int) (l : List Ou) : List Ou := (l.filter fun o => decide (o.op = op)).map fun o => { o with op := 0 }
theorem ofL_snoc (key : ByteArray) (l : List Ou) (o : Ou) : ofL key (l ++ [o]) = ofL key l ++ if o.key = key then [o] else [] := by
  unfold ofL
  rw [List.filter_append, List.filter_cons]
  by_cases h : o.key = key <;> simp [h]
theorem onlyL_snoc (op : Int) (l : List Ou) (o : Ou) : onlyL op (l ++ [o]) = onlyL op l ++ if o.op = op then [{ o with op := 0 }] else [] := by
  unfold onlyL
  rw [List.filter_append, List.filter_cons, List.map_append]
  by_cases h : o.op = op <;> simp [h]
theorem ofL_len (key : ByteArray) (l : List Ou) : (ofL key l).length ≤ l.length := List.length_filter_le _ _
theorem onlyL_len (op : Int) (l : List Ou) : (onlyL op l).length ≤ l.length := by
  unfold onlyL
  rw [List.length_map]
  exact List.length_filter_le _ _
set_option maxRecDepth 100000 in
set_option maxHeartbeats 4000000 in
theorem of_any (A : Option Addr) (c : Nat) (l : List Ou) (key : ByteArray) (w : World) (hA : RdO w A l) (hc : l.length ≤ c) (hm : c ≤ maxLen) (hl : l.length ≤ 3000000) :
    Calls Tryz.prog 21 #[.slice A l.length c, .string key] w fun e w' => ∃ v, e = .returned v ∧ w'.ownsRow w.heap.size 56 6 v (ofL key l).length (oucells (ofL key l)) ∧ Below w.heap.size w w' := by
  have HA := Lib.hid hA
  unfold maxLen at hm
  clear hA
  go_enter Tryz.func21, Tryz.ntmps21
  go_wp2_with (fail)
  go_loopw [5, 6] (fun v i wr => ∃ k : Nat, k ≤ l.length ∧ i = .int .i64 k ∧ wr.ownsRow w.heap.size 56 6 v (ofL key (l.take k)).length (oucells (ofL key (l.take k))) ∧ Below w.heap.size w wr) (fun _ i _ => l.length - (intOf i).toNat)
  case atStart => exact ⟨0, Nat.zero_le _, rfl, World.ownsRow_nil _ _ _ _, Below.refl _ _⟩
  case round =>
    obtain ⟨k, hk, rfl, hown, hbl⟩ := hrel
    by_cases hlt : k < l.length
    · obtain ⟨g, rfl, hg, hx⟩ := (HA.out.below hbl) (by omega)
      obtain ⟨x0, x1, x2, x3, x4, x5⟩ := hx k hlt
      have hsn := ofL_snoc key (l.take k) l[k]
      rw [← List.take_succ_eq_append_getElem hlt] at hsn
      have hln := ofL_len key (l.take k)
      rw [List.length_take] at hln
      have HO := Lib.hid hown
      have HB := Lib.hid hbl
      have hbz : w.heap.size ≤ wr.heap.size := hbl.size
      generalize l[k] = o at *
      obtain ⟨oop, okey, of_, ot, os, oa⟩ := o
      dsimp only at x0 x1 x2 x3 x4 x5 hsn
      clear hx hown hbl
      by_cases h1 : okey = key
      · subst h1
        have hkk : (okey.toList == okey.toList) = true := tl_eq rfl
        rw [if_pos rfl] at hsn
        have HSN := Lib.hid hsn
        have hba := bl_alloc (Below.refl wr.heap.size wr) (Obj.cells #[.int .i64 oop, .string okey, .int .i64 of_, .int .i64 ot, .string os, .bool oa] 56)
        have HB3 := Lib.hid (bl_then HB.out hba)
        have HO3 := Lib.hid (own_below HO.out hba)
        have HNR : Hid ((wr.alloc (Obj.cells #[.int .i64 oop, .string okey, .int .i64 of_, .int .i64 ot, .string os, .bool oa] 56)).ownsRow 0 56 6 (.slice (some ⟨wr.heap.size, 0, none⟩) 1 1) 1 (oucells [⟨oop, okey, of_, ot, os, oa⟩])) := Lib.hid (own_one (news := oucells [⟨oop, okey, of_, ot, os, oa⟩]) (by exact heap_alloc_new wr _) rfl (Nat.zero_le _))
        have HON := Lib.hid (oucells_one [⟨oop, okey, of_, ot, os, oa⟩])
        have hbz2 : w.heap.size ≤ (wr.alloc (Obj.cells #[.int .i64 oop, .string okey, .int .i64 of_, .int .i64 ot, .string os, .bool oa] 56)).heap.size := HB3.out.size
        obtain ⟨n1, hn1⟩ : ∃ n1, n1 = (ofL okey (l.take k)).length := ⟨_, rfl⟩
        rw [← hn1] at HO3 hln
        have HN1 := Lib.hid hn1
        have hsum : n1 + 1 ≤ 4000000 := by omega
        clear hba hsn hn1 hln
        go_wp2_with (at_builtin; refine wpList_append_row _ rfl _ _ 50 56 6 64 (.agg #[.int .i64 0, .string ⟨#[]⟩, .int .i64 0, .int .i64 0, .string ⟨#[]⟩, .bool false]) und50 i56 rfl (by decide) (by decide) rfl w.heap.size 0 n1 u5 _ rfl HO3.out _ 1 _ rfl HNR.out HON.out hsum hbz2 ?_)
        intro v7 w7 ho7 hg7 hl7
        have HB7 := Lib.hid (HB3.out.grown hg7 HB3.out.size (fun b hb => (HO3.out.lt b hb).1))
        have HO7 : Hid (w7.ownsRow w.heap.size 56 6 v7 (ofL okey (l.take (k + 1))).length (oucells (ofL okey (l.take (k + 1))))) := Lib.hid (by rw [HSN.out, oucells_app, List.length_append, ← HN1.out]; exact ho7)
        clear ho7 hg7 hl7
        go_wp2_with (fail)
        exact ⟨⟨k + 1, hlt, by push_cast; rfl, HO7.out, HB7.out⟩, by simp only [intOf]; omega⟩
      · have hkk : (okey.toList == key.toList) = false := tl_ne h1
        rw [if_neg h1, List.append_nil] at hsn
        have HSN := Lib.hid hsn
        clear hsn h1
        go_wp2_with (fail)
        exact ⟨⟨k + 1, hlt, by push_cast; rfl, by rw [HSN.out]; exact HO.out, HB.out⟩, by simp only [intOf]; omega⟩
    · have hke : k = l.length := by omega
      subst hke
      rw [List.take_length] at hown
      have HO := Lib.hid hown
      have HB := Lib.hid hbl
      clear hown hbl
      go_wp2_with (fail)
      go_ret
      exact ⟨_, rfl, HO.out, HB.out⟩
set_option maxRecDepth 100000 in
set_option maxHeartbeats 4000000 in
theorem only_any (A : Option Addr) (c : Nat) (l : List Ou) (op : Int) (w : World) (hA : RdO w A l) (hc : l.length ≤ c) (hm : c ≤ maxLen) (hl : l.length ≤ 3000000) :
    Calls Tryz.prog 22 #[.slice A l.length c, .int .i64 op] w fun e w' => ∃ v, e = .returned v ∧ w'.ownsRow w.heap.size 56 6 v (onlyL op l).length (oucells (onlyL op l)) ∧ Below w.heap.size w w' := by
  have HA := Lib.hid hA
  unfold maxLen at hm
  clear hA
  go_enter Tryz.func22, Tryz.ntmps22
  go_wp2_with (fail)
  go_loopw [5, 6] (fun v i wr => ∃ k : Nat, k ≤ l.length ∧ i = .int .i64 k ∧ wr.ownsRow w.heap.size 56 6 v (onlyL op (l.take k)).length (oucells (onlyL op (l.take k))) ∧ Below w.heap.size w wr) (fun _ i _ => l.length - (intOf i).toNat)
  case atStart => exact ⟨0, Nat.zero_le _, rfl, World.ownsRow_nil _ _ _ _, Below.refl _ _⟩
  case round =>
    obtain ⟨k, hk, rfl, hown, hbl⟩ := hrel
    by_cases hlt : k < l.length
    · obtain ⟨g, rfl, hg, hx⟩ := (HA.out.below hbl) (by omega)
      obtain ⟨x0, x1, x2, x3, x4, x5⟩ := hx k hlt
      have hsn := onlyL_snoc op (l.take k) l[k]
      rw [← List.take_succ_eq_append_getElem hlt] at hsn
      have hln := onlyL_len op (l.take k)
      rw [List.length_take] at hln
      have HO := Lib.hid hown
      have HB := Lib.hid hbl
      have hbz : w.heap.size ≤ wr.heap.size := hbl.size
      generalize l[k] = o at *
      obtain ⟨oop, okey, of_, ot, os, oa⟩ := o
      dsimp only at x0 x1 x2 x3 x4 x5 hsn
      clear hx hown hbl
      by_cases h1 : oop = op
      · subst h1
        rw [if_pos rfl] at hsn
        have HSN := Lib.hid hsn
        have hba0 := bl_alloc (Below.refl wr.heap.size wr) (Obj.cells #[.int .i64 0, .string okey, .int .i64 of_, .int .i64 ot, .string os, .bool oa] 56)
        have hsz0 : (wr.alloc (Obj.cells #[.int .i64 0, .string okey, .int .i64 of_, .int .i64 ot, .string os, .bool oa] 56)).heap.size = wr.heap.size + 1 := by simp
        have hba := bl_alloc hba0 (Obj.cells #[.int .i64 0, .string okey, .int .i64 of_, .int .i64 ot, .string os, .bool oa] 56)
        have HB3 := Lib.hid (bl_then HB.out hba)
        have HO3 := Lib.hid (own_below HO.out hba)
        have HNR : Hid (((wr.alloc (Obj.cells #[.int .i64 0, .string okey, .int .i64 of_, .int .i64 ot, .string os, .bool oa] 56)).alloc (Obj.cells #[.int .i64 0, .string okey, .int .i64 of_, .int .i64 ot, .string os, .bool oa] 56)).ownsRow 0 56 6 (.slice (some ⟨wr.heap.size + 1, 0, none⟩) 1 1) 1 (oucells [⟨0, okey, of_, ot, os, oa⟩])) := Lib.hid (own_one (news := oucells [⟨0, okey, of_, ot, os, oa⟩]) (by rw [← hsz0]; exact heap_alloc_new _ _) rfl (Nat.zero_le _))
        have HON := Lib.hid (oucells_one [⟨0, okey, of_, ot, os, oa⟩])
        have hbz2 : w.heap.size ≤ ((wr.alloc (Obj.cells #[.int .i64 0, .string okey, .int .i64 of_, .int .i64 ot, .string os, .bool oa] 56)).alloc (Obj.cells #[.int .i64 0, .string okey, .int .i64 of_, .int .i64 ot, .string os, .bool oa] 56)).heap.size := HB3.out.size
        obtain ⟨n1, hn1⟩ : ∃ n1, n1 = (onlyL oop (l.take k)).length := ⟨_, rfl⟩
        rw [← hn1] at HO3 hln
        have HN1 := Lib.hid hn1
        have hsum : n1 + 1 ≤ 4000000 := by omega
        clear hba hba0 hsz0 hsn hn1 hln
        go_wp2_with (at_builtin; refine wpList_append_row _ rfl _ _ 50 56 6 64 (.agg #[.int .i64 0, .string ⟨#[]⟩, .int .i64 0, .int .i64 0, .string ⟨#[]⟩, .bool false]) und50 i56 rfl (by decide) (by decide) rfl w.heap.size 0 n1 u5 _ rfl HO3.out _ 1 _ rfl HNR.out HON.out hsum hbz2 ?_)
        intro v7 w7 ho7 hg7 hl7
        have HB7 := Lib.hid (HB3.out.grown hg7 HB3.out.size (fun b hb => (HO3.out.lt b hb).1))
        have HO7 : Hid (w7.ownsRow w.heap.size 56 6 v7 (onlyL oop (l.take (k + 1))).length (oucells (onlyL oop (l.take (k + 1))))) := Lib.hid (by rw [HSN.out, oucells_app, List.length_append, ← HN1.out]; exact ho7)
        clear ho7 hg7 hl7
        go_wp2_with (fail)
        exact ⟨⟨k + 1, hlt, by push_cast; rfl, HO7.out, HB7.out⟩, by simp only [intOf]; omega⟩
      · have hkk : (oop == op) = false := by simpa using h1
        rw [if_neg h1, List.append_nil] at hsn
        have HSN := Lib.hid hsn
        clear hsn h1
        go_wp2_with (fail)
        exact ⟨⟨k + 1, hlt, by push_cast; rfl, by rw [HSN.out]; exact HO.out, HB.out⟩, by simp only [intOf]; omega⟩
    · have hke : k = l.length := by omega
      subst hke
      rw [List.take_length] at hown
      have HO := Lib.hid hown
      have HB := Lib.hid hbl
      clear hown hbl
      go_wp2_with (fail)
      go_ret
      exact ⟨_, rfl, HO.out, HB.out⟩
end Go.Proofs.YtfojblbnhapedaaGreatDoor
