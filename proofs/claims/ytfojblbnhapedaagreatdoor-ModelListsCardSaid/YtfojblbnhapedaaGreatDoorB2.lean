/- Contract of job.Check. Conditions: as each theorem states them. -/
import Derived.Test.YtfojblbnhapedaaGreatDoorA2
namespace Go.Proofs.YtfojblbnhapedaaGreatDoor
open Go.RowKit
set_option linter.unusedVariables false
set_option linter.unusedSimpArgs false

/-- Cells below the world's size. -/
def Ext (w : World) : Type := { w' : World // Below w.heap.size w w' }
instance (w : World) : Nonempty (Ext w) := ⟨⟨w, Below.refl _ _⟩⟩
theorem Ext.bl {w : World} (x : Ext w) : Below w.heap.size w x.val := x.property
section
variable {P : Program} {w : World}
theorem ext_calls {f : FuncId} {args : Array Value} {x : Ext w} {v : Value} (h : Calls P f args x.val fun e w' => e = .returned v ∧ Below x.val.heap.size x.val w') :
    Calls P f args x.val fun e w'' => e = .returned v ∧ ∃ y : Ext w, w'' = y.val :=
  h.mono fun _ w'' ⟨he, hb⟩ => ⟨he, ⟨w'', x.bl.trans (hb.mono x.bl.size)⟩, rfl⟩
theorem ext_calls_same {f : FuncId} {args : Array Value} {x : Ext w} {v : Value} (h : Calls P f args x.val fun e w' => e = .returned v ∧ x.val = w') :
    Calls P f args x.val fun e w'' => e = .returned v ∧ ∃ y : Ext w, w'' = y.val :=
  h.mono fun _ _ ⟨he, hb⟩ => ⟨he, x, hb.symm⟩
theorem ext_cell {p : Addr} {v : Value} (h : w.cell? p = some v) : ∀ x : Ext w, x.val.cell? p = some v := fun x => (x.bl.cell (World.block_lt_of_cell? w p h)).trans h
theorem wp_region_ext {id : Nat} {Q : Exit → Act → World → Prop} {a : Act} {l : List Oper} (hm : P.follows .mixedOrders = true) (hB : Region.lexB .any l.toArray = true)
    (h : wpQuiet P l.toArray (fun w' => ∃ x : Ext w, w' = x.val) (fun a' => ∀ w', (∃ x : Ext w, w' = x.val) → Q .normal a' w') l a) : (Code.region id l.toArray true).wp P Q a w :=
  wp_region_quiet (C := fun w' => ∃ x : Ext w, w' = x.val) hm hB ⟨⟨w.drew, (Below.refl _ _).drew⟩, rfl⟩ (by simpa using h)
end
/-- A byte of a text. -/
def bAt (n : ByteArray) (i : Nat) : Nat := (n.data.getD i 0).toNat
theorem bAt_get {n : ByteArray} {i : Nat} (h : i < n.size) : bAt n i = n[i].toNat := by
  unfold bAt
  rw [Array.getD_eq_getD_getElem?, Array.getElem?_eq_getElem (by simpa using h)]
  rfl
def jokc (i c : Nat) : Prop := (97 ≤ c ∧ c ≤ 122) ∨ (0 < i ∧ 48 ≤ c ∧ c ≤ 57)
instance (i c : Nat) : Decidable (jokc i c) := by unfold jokc; infer_instance
/-- Is it a name? -/
def jnamed (n : ByteArray) : Prop := 1 ≤ n.size ∧ n.size ≤ 16 ∧ ∀ i, i < n.size → jokc i (bAt n i)
instance (n : ByteArray) : Decidable (jnamed n) := by unfold jnamed; infer_instance
def okN (n : ByteArray) : Prop := n.size ≤ 9223372036854775807
set_option maxRecDepth 100000 in
set_option maxHeartbeats 4000000 in
theorem jnamed_any (n : ByteArray) (w : World) (hz : okN n) : Calls Tryz.prog 81 #[.string n] w fun e w' => e = .returned (.bool (decide (jnamed n))) ∧ w = w' := by
  obtain ⟨m, hm⟩ : ∃ m, n.size = m := ⟨_, rfl⟩
  have hmz : m ≤ 9223372036854775807 := by unfold okN at hz; omega
  go_enter Tryz.func81, Tryz.ntmps81
  go_wp2_with (fail)
  go_loopw [7] (fun vi wr => ∃ i : Nat, i ≤ m ∧ vi = .int .i64 i ∧ (∀ j, j < i → jokc j (bAt n j)) ∧ wr = w) (fun i _ => m - (intOf i).toNat)
  case atStart => exact ⟨0, Nat.zero_le _, rfl, fun j hj => by omega, rfl⟩
  case round =>
    obtain ⟨i, him, rfl, hok, rfl⟩ := hrel
    by_cases hi : i < m
    · have hi0 : (0 : Int) ≤ (i : Int) := by omega
      have hi1 : (i : Int) < (m : Int) := by omega
      have hbA := bAt_get (n := n) (i := i) (by omega)
      have HOK := Lib.hid hok
      clear hok
      go_wp2_with (fail)
      all_goals (
        generalize n[i].toNat = c at *
        first
        | (refine ⟨⟨i + 1, by omega, by first | rfl | (push_cast; rfl), fun j hj => ?_, trivial⟩, by simp [intOf]; omega⟩
           rcases Nat.lt_or_ge j i with h | h
           · exact HOK.out j h
           · obtain rfl : j = i := by omega
             rw [hbA]
             unfold jokc
             simp at *
             omega)
        | (have hN : decide (jnamed n) = false := decide_eq_false (fun h => by
             have h := h.2.2 i (by omega)
             rw [hbA] at h
             unfold jokc at h
             simp at *
             omega)
           rw [hN]
           go_ret
           exact ⟨rfl, rfl⟩))
    · have hi1 : ¬ (i : Int) < (m : Int) := by omega
      have hall : Hid (∀ j, j < m → jokc j (bAt n j)) := Lib.hid (fun j hj => hok j (by omega))
      clear hok
      by_cases h1 : m < 1
      · have h1i : ¬ (1 : Int) ≤ (m : Int) := by omega
        have hN : decide (jnamed n) = false := decide_eq_false (fun h => by have := h.1; omega)
        go_wp2_with (fail)
        go_ret
        try rw [hN]
        exact ⟨rfl, rfl⟩
      · have h1i : (1 : Int) ≤ (m : Int) := by omega
        by_cases h2 : 16 < m
        · have h2i : ¬ (m : Int) ≤ 16 := by omega
          have hN : decide (jnamed n) = false := decide_eq_false (fun h => by have := h.2.1; omega)
          go_wp2_with (fail)
          go_ret
          try rw [hN]
          exact ⟨rfl, rfl⟩
        · have h2i : (m : Int) ≤ 16 := by omega
          have hN : decide (jnamed n) = true := decide_eq_true ⟨by omega, by omega, fun j hj => hall.out j (by omega)⟩
          go_wp2_with (fail)
          go_ret
          try rw [hN]
          exact ⟨rfl, rfl⟩
end Go.Proofs.YtfojblbnhapedaaGreatDoor
namespace Go.Proofs.YtfojblbnhapedaaGreatDoor
open Go.RowKit
set_option linter.unusedVariables false
set_option linter.unusedSimpArgs false

/-- An operator. -/
structure JOp where
  nm : ByteArray
  agg : Int
  k : Int
  s : Int
  l : Int
def zeroP : JOp := ⟨ByteArray.empty, 0, 0, 0, 0⟩
instance : Inhabited JOp := ⟨zeroP⟩
def opV (o : JOp) : Value := .agg #[.string o.nm, .int .i64 o.agg, .int .i64 o.k, .int .i64 o.s, .int .i64 o.l]
def opcells (o : JOp) : List Value := [.string o.nm, .int .i64 o.agg, .int .i64 o.k, .int .i64 o.s, .int .i64 o.l]
def mayP (o : JOp) : Prop := jnamed o.nm ∧ 1 ≤ o.agg ∧ o.agg ≤ 8 ∧ chkV o.k o.s o.l = 0
instance (o : JOp) : Decidable (mayP o) := by unfold mayP; infer_instance
theorem tl_ne {a b : ByteArray} (h : ¬ a = b) : (a.toList == b.toList) = false := by
  rw [beq_eq_false_iff_ne]
  intro e
  rw [ByteArray.toList_eq, ByteArray.toList_eq] at e
  apply h
  cases a
  cases b
  simp at e
  simp [e]
set_option maxRecDepth 100000 in
set_option maxHeartbeats 2000000 in
theorem may_any (o : JOp) (w : World) (hz : okN o.nm) : Calls Tryz.prog 56 #[opV o] w fun e w' => e = .returned (.bool (decide (mayP o))) ∧ Below w.heap.size w w' := by
  have HN := Lib.hid (fun W => jnamed_any o.nm W hz)
  have HB := Lib.hid (bl_alloc (Below.refl w.heap.size w) (Obj.cells #[.string o.nm, .int .i64 o.agg, .int .i64 o.k, .int .i64 o.s, .int .i64 o.l] 48))
  unfold opV
  by_cases h1 : jnamed o.nm
  · rw [decide_eq_true h1] at HN
    by_cases h2 : 1 ≤ o.agg
    · by_cases h3 : o.agg ≤ 8
      · by_cases h4 : chkV o.k o.s o.l = 0
        · have hm : decide (mayP o) = true := decide_eq_true ⟨h1, h2, h3, h4⟩
          rw [hm]
          have HC := Lib.hid (fun W => check_is o.k o.s o.l 0 W h4)
          obtain ⟨nm, agg, k, s, l⟩ := o
          dsimp only at *
          clear hm h1 h4 hz
          go_enter Tryz.func56, Tryz.ntmps56
          go_wp2_with (fail)
          refine (HN.out _).mono ?_
          rintro r w' ⟨rfl, rfl⟩
          go_wp2_with (fail)
          refine (HC.out _).mono ?_
          rintro r w2 ⟨rfl, hb⟩
          go_wp2_with (fail)
          go_ret
          exact ⟨rfl, bl_then HB.out hb⟩
        · have hm : decide (mayP o) = false := decide_eq_false (fun h => h4 h.2.2.2)
          rw [hm]
          have HC := Lib.hid (fun W => check_is o.k o.s o.l 2 W ((chkV_or o.k o.s o.l).resolve_left h4))
          obtain ⟨nm, agg, k, s, l⟩ := o
          dsimp only at *
          clear hm h1 h4 hz
          go_enter Tryz.func56, Tryz.ntmps56
          go_wp2_with (fail)
          refine (HN.out _).mono ?_
          rintro r w' ⟨rfl, rfl⟩
          go_wp2_with (fail)
          refine (HC.out _).mono ?_
          rintro r w2 ⟨rfl, hb⟩
          go_wp2_with (fail)
          go_ret
          exact ⟨rfl, bl_then HB.out hb⟩
      · have hm : decide (mayP o) = false := decide_eq_false (fun h => h3 h.2.2.1)
        rw [hm]
        obtain ⟨nm, agg, k, s, l⟩ := o
        dsimp only at *
        clear hm h1 hz
        go_enter Tryz.func56, Tryz.ntmps56
        go_wp2_with (fail)
        refine (HN.out _).mono ?_
        rintro r w' ⟨rfl, rfl⟩
        go_wp2_with (fail)
        go_ret
        exact ⟨rfl, HB.out⟩
    · have hm : decide (mayP o) = false := decide_eq_false (fun h => h2 h.2.1)
      rw [hm]
      obtain ⟨nm, agg, k, s, l⟩ := o
      dsimp only at *
      clear hm h1 hz
      go_enter Tryz.func56, Tryz.ntmps56
      go_wp2_with (fail)
      refine (HN.out _).mono ?_
      rintro r w' ⟨rfl, rfl⟩
      go_wp2_with (fail)
      go_ret
      exact ⟨rfl, HB.out⟩
  · rw [decide_eq_false h1] at HN
    have hm : decide (mayP o) = false := decide_eq_false (fun h => h1 h.1)
    rw [hm]
    obtain ⟨nm, agg, k, s, l⟩ := o
    dsimp only at *
    clear hm h1 hz
    go_enter Tryz.func56, Tryz.ntmps56
    go_wp2_with (fail)
    refine (HN.out _).mono ?_
    rintro r w' ⟨rfl, rfl⟩
    go_wp2_with (fail)
    go_ret
    exact ⟨rfl, HB.out⟩
/-- The closure that asks for an operator's name. -/
theorem same_any (p : JOp) (X : Nat) (n : ByteArray) (w : World) (hX : w.cell? ⟨X, 0, none⟩ = some (.string n)) : Calls Tryz.prog 58 #[opV p, .pointer (some ⟨X, 0, none⟩)] w fun e w' => e = .returned (.bool (decide (p.nm = n))) ∧ Below w.heap.size w w' := by
  have HB := Lib.hid (bl_alloc (Below.refl w.heap.size w) (Obj.cells #[.string p.nm, .int .i64 p.agg, .int .i64 p.k, .int .i64 p.s, .int .i64 p.l] 48))
  have hl := World.block_lt_of_cell? w _ hX
  have hl : X < w.heap.size := hl
  unfold opV
  obtain ⟨nm, agg, k, s, l⟩ := p
  dsimp only at *
  by_cases h : nm = n
  · subst h
    rw [decide_eq_true rfl]
    go_enter Tryz.func58, Tryz.ntmps58
    go_wp2_with (fail)
    go_ret
    exact ⟨rfl, HB.out⟩
  · rw [decide_eq_false h]
    have hn := tl_ne h
    clear h
    go_enter Tryz.func58, Tryz.ntmps58
    go_wp2_with (fail)
    go_ret
    exact ⟨rfl, HB.out⟩
/-- From the address A on the operators l stand. -/
def RdP (w : World) (A : Option Addr) (l : List JOp) : Prop :=
  (0 < l.length → ∃ b off, A = some ⟨b, off, none⟩ ∧ b < w.heap.size ∧ ∀ i, i < l.length → w.cell? ⟨b, off + i * 5, none⟩ = some (.string (l.getD i zeroP).nm) ∧ w.cell? ⟨b, off + i * 5 + 1, none⟩ = some (.int .i64 (l.getD i zeroP).agg) ∧
    w.cell? ⟨b, off + i * 5 + 2, none⟩ = some (.int .i64 (l.getD i zeroP).k) ∧ w.cell? ⟨b, off + i * 5 + 3, none⟩ = some (.int .i64 (l.getD i zeroP).s) ∧ w.cell? ⟨b, off + i * 5 + 4, none⟩ = some (.int .i64 (l.getD i zeroP).l)) ∧
  ∀ o ∈ l, okN o.nm
theorem RdP.below {w w' : World} {A : Option Addr} {l : List JOp} (h : RdP w A l) (k : Below w.heap.size w w') : RdP w' A l := by
  refine ⟨fun hl => ?_, h.2⟩
  obtain ⟨b, off, e, hb, hc⟩ := h.1 hl
  refine ⟨b, off, e, Nat.lt_of_lt_of_le hb k.size, fun i hi => ?_⟩
  obtain ⟨u0, u1, u2, u3, u4⟩ := hc i hi
  exact ⟨(k.cell (p := ⟨b, _, none⟩) hb).trans u0, (k.cell (p := ⟨b, _, none⟩) hb).trans u1, (k.cell (p := ⟨b, _, none⟩) hb).trans u2, (k.cell (p := ⟨b, _, none⟩) hb).trans u3, (k.cell (p := ⟨b, _, none⟩) hb).trans u4⟩
theorem RdP.take {w : World} {A : Option Addr} {l : List JOp} (h : RdP w A l) (n : Nat) (hn : n ≤ l.length) : RdP w A (l.take n) := by
  refine ⟨fun hl => ?_, fun o ho => h.2 o (List.mem_of_mem_take ho)⟩
  rw [List.length_take] at hl
  obtain ⟨b, off, e, hb, hc⟩ := h.1 (by omega)
  refine ⟨b, off, e, hb, fun i hi => ?_⟩
  rw [List.length_take] at hi
  have hg : (l.take n).getD i zeroP = l.getD i zeroP := by
    rw [List.getD_eq_getElem?_getD, List.getD_eq_getElem?_getD, List.getElem?_take_of_lt (by omega)]
  rw [hg]
  exact hc i (by omega)
/-- Where a name stands among operators; -1: nowhere. -/
def idxP : List JOp → ByteArray → Nat → Int
  | [], _, _ => -1
  | p :: l, n, i => if p.nm = n then i else idxP l n (i + 1)
theorem idxP_none : ∀ (l : List JOp) (n : ByteArray) (i : Nat), (∀ p ∈ l, p.nm ≠ n) → idxP l n i = -1
  | [], _, _, _ => rfl
  | p :: l, n, i, h => by
    unfold idxP
    rw [if_neg (h p (List.mem_cons_self ..))]
    exact idxP_none l n (i + 1) (fun q hq => h q (List.mem_cons_of_mem _ hq))
theorem idxP_at : ∀ (l : List JOp) (n : ByteArray) (k i : Nat) (h : i < l.length), (l[i]).nm = n → (∀ j (hj : j < i), (l[j]'(by omega)).nm ≠ n) → idxP l n k = ((k + i : Nat) : Int)
  | [], _, _, i, h, _, _ => absurd h (Nat.not_lt_zero _)
  | p :: l, n, k, 0, h, e, _ => by
    unfold idxP
    rw [if_pos (show p.nm = n from e)]
    rfl
  | p :: l, n, k, i + 1, h, e, hn => by
    unfold idxP
    rw [if_neg (show ¬ p.nm = n from hn 0 (by omega)), idxP_at l n (k + 1) i (by simpa using h) e (fun j hj => hn (j + 1) (by omega))]
    congr 1
    omega
set_option maxRecDepth 100000 in
set_option maxHeartbeats 4000000 in
theorem index_any (A : Option Addr) (c : Nat) (l : List JOp) (X : Nat) (n : ByteArray) (w : World) (hA : RdP w A l) (hl : l.length ≤ 9223372036854775807) (hX : w.cell? ⟨X, 0, none⟩ = some (.string n)) :
    Calls Tryz.prog 83 #[.slice A l.length c, .func (.func 58) #[] #[.pointer (some ⟨X, 0, none⟩)]] w fun e w' => e = .returned (.int .i64 (idxP l n 0)) ∧ Below w.heap.size w w' := by
  have HA := Lib.hid hA
  have HX := Lib.hid (fun W (k : Below w.heap.size w W) p => same_any p X n W ((k.cell (p := ⟨X, 0, none⟩) (World.block_lt_of_cell? w _ hX)).trans hX))
  obtain ⟨m, hm⟩ : ∃ m, l.length = m := ⟨_, rfl⟩
  have HM := Lib.hid hm
  rw [hm] at hl ⊢
  obtain ⟨q, hq⟩ : ∃ q, idxP l n 0 = q := ⟨_, rfl⟩
  have HQ := Lib.hid hq
  rw [hq]
  unfold opV at HX
  clear hA hX hm hq
  go_enter Tryz.func83, Tryz.ntmps83
  go_wp2_with (fail)
  go_loopw [8] (fun vi wr => ∃ i : Nat, i ≤ m ∧ vi = .int .i64 i ∧ (∀ j (hj : j < l.length), j < i → (l[j]).nm ≠ n) ∧ Below w.heap.size w wr) (fun i _ => m - (intOf i).toNat)
  case atStart => exact ⟨0, Nat.zero_le _, rfl, fun j _ hj => absurd hj (Nat.not_lt_zero _), Below.refl _ _⟩
  case round =>
    obtain ⟨i, hin, rfl, hno, hbl⟩ := hrel
    have HNO := Lib.hid hno
    have HBL := Lib.hid hbl
    clear hno hbl
    by_cases hi : i < m
    · have hi0 : (0 : Int) ≤ (i : Int) := by omega
      have hi1 : (i : Int) < (m : Int) := by omega
      obtain ⟨b, off, rfl, hb, hcc⟩ := (HA.out.below HBL.out).1 (by rw [HM.out]; omega)
      have hil : i < l.length := by rw [HM.out]; exact hi
      obtain ⟨u0, u1, u2, u3, u4⟩ := hcc i hil
      have hg : l.getD i zeroP = l[i] := by rw [List.getD_eq_getElem?_getD, List.getElem?_eq_getElem hil]; rfl
      rw [hg] at u0 u1 u2 u3 u4
      obtain ⟨p, hp⟩ : ∃ p, l[i] = p := ⟨_, rfl⟩
      have HP := Lib.hid hp
      rw [hp] at u0 u1 u2 u3 u4
      by_cases he : p.nm = n
      · have HS := Lib.hid (HX.out wr HBL.out p)
        rw [decide_eq_true he] at HS
        have HR : Hid (q = i) := Lib.hid (by
          rw [← HQ.out, idxP_at l n 0 i hil (by rw [hp]; exact he) (fun j hj => HNO.out j (by omega) hj)]
          simp)
        clear hcc hg hp he
        go_wp2_with (fail)
        refine HS.out.mono ?_
        rintro r w2 ⟨rfl, hb2⟩
        have HB2 := Lib.hid (HBL.out.trans (hb2.mono HBL.out.size))
        clear hb2
        go_wp2_with (fail)
        go_ret
        exact ⟨by rw [HR.out]; rfl, HB2.out⟩
      · have HS := Lib.hid (HX.out wr HBL.out p)
        rw [decide_eq_false he] at HS
        have HE := Lib.hid he
        clear hcc hg hp he
        go_wp2_with (fail)
        refine HS.out.mono ?_
        rintro r w2 ⟨rfl, hb2⟩
        have HB2 := Lib.hid (HBL.out.trans (hb2.mono HBL.out.size))
        clear hb2
        go_wp2_with (fail)
        exact ⟨⟨i + 1, by omega, by push_cast; rfl, fun j hj hji => by
          rcases Nat.lt_or_ge j i with h | h
          · exact HNO.out j hj h
          · have : j = i := by omega
            subst this
            rw [HP.out]
            exact HE.out, HB2.out⟩, by simp [intOf]; omega⟩
    · have hi1 : ¬ (i : Int) < (m : Int) := by omega
      have HR : Hid (q = -1) := Lib.hid (by
        rw [← HQ.out, idxP_none l n 0 (fun p hp => by
          obtain ⟨j, hj, rfl⟩ := List.mem_iff_getElem.1 hp
          exact HNO.out j hj (by rw [HM.out] at hj; omega))])
      go_wp2_with (fail)
      go_ret
      exact ⟨by rw [HR.out]; rfl, HBL.out⟩
set_option maxHeartbeats 1000000 in
theorem contains_any (A : Option Addr) (c : Nat) (l : List JOp) (X : Nat) (n : ByteArray) (w : World) (hA : RdP w A l) (hl : l.length ≤ 9223372036854775807) (hX : w.cell? ⟨X, 0, none⟩ = some (.string n)) :
    Calls Tryz.prog 57 #[.slice A l.length c, .func (.func 58) #[] #[.pointer (some ⟨X, 0, none⟩)]] w fun e w' => e = .returned (.bool (decide (0 ≤ idxP l n 0))) ∧ Below w.heap.size w w' := by
  have HI := Lib.hid (index_any A c l X n w hA hl hX)
  obtain ⟨q, hq⟩ : ∃ q, idxP l n 0 = q := ⟨_, rfl⟩
  rw [hq] at HI ⊢
  clear hA hX hq
  go_enter Tryz.func57, Tryz.ntmps57
  go_wp2_with (fail)
  refine HI.out.mono ?_
  rintro r w' ⟨rfl, hb⟩
  go_wp2_with (fail)
  go_ret
  exact ⟨rfl, hb⟩
end Go.Proofs.YtfojblbnhapedaaGreatDoor
namespace Go.Proofs.YtfojblbnhapedaaGreatDoor
open Go.RowKit
set_option linter.unusedVariables false
set_option linter.unusedSimpArgs false

theorem cell_of {w : World} {b : Nat} {cs : Array Value} {t : TypeId} {fz : Nat × Nat} (h : w.heap[b]? = some (Obj.cells cs t fz)) (i : Nat) : w.cell? ⟨b, i, none⟩ = cs[i]? := by simp [World.cell?, h]
theorem froz_of {w : World} {b : Nat} {cs : Array Value} {t : TypeId} (h : w.heap[b]? = some (Obj.cells cs t)) (i : Nat) : w.frozen? ⟨b, i, none⟩ = false := by simp [World.frozen?, h]
/-- A job, and where its operators stand. -/
structure Jb where
  groups : Int
  sources : Int
  bound : Int
  late : Int
  ops : List JOp
  A : Option Addr
  c : Nat
def jbV (j : Jb) : Value := .agg #[.int .i64 j.groups, .int .i64 j.sources, .int .i64 j.bound, .int .i64 j.late, .slice j.A j.ops.length j.c]
/-- May the numbers of a job be? -/
def headP (j : Jb) : Prop := 1 ≤ j.groups ∧ j.groups ≤ 64 ∧ 1 ≤ j.sources ∧ j.sources ≤ 16 ∧ 0 ≤ j.bound ∧ j.bound ≤ 1099511627776 ∧ 0 ≤ j.late ∧ j.late ≤ 1099511627776 ∧ j.ops.length ≤ 8
instance (j : Jb) : Decidable (headP j) := by unfold headP; infer_instance
/-- May the first n operators be? -/
def opsP (l : List JOp) : Nat → Prop
  | 0 => True
  | n + 1 => opsP l n ∧ mayP (l.getD n zeroP) ∧ idxP (l.take n) (l.getD n zeroP).nm 0 < 0
instance (l : List JOp) : ∀ n, Decidable (opsP l n)
  | 0 => isTrue trivial
  | n + 1 => by
    have := instDecidableOpsP l n
    unfold opsP
    infer_instance
def jobP (j : Jb) : Prop := headP j ∧ opsP j.ops j.ops.length
instance (j : Jb) : Decidable (jobP j) := by unfold jobP; infer_instance
end Go.Proofs.YtfojblbnhapedaaGreatDoor
