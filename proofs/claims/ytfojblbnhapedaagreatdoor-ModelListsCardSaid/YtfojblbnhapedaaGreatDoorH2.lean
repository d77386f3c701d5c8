/- The contract of window.Merge, for lists of at most 1000000 windows. Conditions: as each theorem states them. -/
import Derived.Test.YtfojblbnhapedaaGreatDoorA2
import Derived.Test.YtfojblbnhapedaaGreatDoorB2
namespace Go.Proofs.YtfojblbnhapedaaGreatDoor
open Go.RowKit
set_option linter.unusedVariables false
set_option linter.unusedSimpArgs false

/-- The slice at A reads as the windows l; it lies below block B. -/
def RdW (w : World) (B : Nat) (A : Option Addr) (l : List (Int × Int)) : Prop :=
  l.length ≤ 9223372036854775807 ∧ (0 < l.length → ∃ b off, A = some ⟨b, off, none⟩ ∧ b < B ∧ ∀ i, i < l.length →
    w.cell? ⟨b, off + i * 2, none⟩ = some (.int .i64 (l.getD i (0, 0)).1) ∧ w.cell? ⟨b, off + i * 2 + 1, none⟩ = some (.int .i64 (l.getD i (0, 0)).2))
section
variable {w w' : World} {B B' : Nat} {A : Option Addr} {l : List (Int × Int)}
theorem RdW.at_ (h : RdW w B A l) {k : Nat} (hk : k < l.length) : ∃ b off, A = some ⟨b, off, none⟩ ∧ b < B ∧ w.cell? ⟨b, off + k * 2, none⟩ = some (.int .i64 (l.getD k (0, 0)).1) ∧ w.cell? ⟨b, off + k * 2 + 1, none⟩ = some (.int .i64 (l.getD k (0, 0)).2) := by
  obtain ⟨b, off, e, hb, hc⟩ := h.2 (by omega)
  exact ⟨b, off, e, hb, hc k hk⟩
theorem RdW.keep (h : RdW w B A l) (hk : ∀ p : Addr, p.block < B → w'.cell? p = w.cell? p) : RdW w' B A l :=
  ⟨h.1, fun hn => by
    obtain ⟨b, off, e, hb, hc⟩ := h.2 hn
    exact ⟨b, off, e, hb, fun i hi => ⟨(hk _ hb).trans (hc i hi).1, (hk _ hb).trans (hc i hi).2⟩⟩⟩
theorem RdW.below (h : RdW w B A l) (hb : Below B w w') : RdW w' B A l := h.keep fun _ hp => hb.cell hp
theorem RdW.more (h : RdW w B A l) (hB : B ≤ B') : RdW w B' A l :=
  ⟨h.1, fun hn => by
    obtain ⟨b, off, e, hb, hc⟩ := h.2 hn
    exact ⟨b, off, e, by omega, hc⟩⟩
end

def mayB (p : Int × Int) : Bool := decide (p.1 < p.2) && decide (-2251799813685248 ≤ p.1) && decide (p.2 ≤ 2251799813685248)
theorem wmay_any (a b : Int) (c : Bool) (hc : mayB (a, b) = c) (w : World) :
    Calls Tryz.prog 46 #[.agg #[.int .i64 a, .int .i64 b]] w fun e w' => e = .returned (.bool c) ∧ Below w.heap.size w w' := by
  subst hc
  unfold mayB
  go_enter Tryz.func46, Tryz.ntmps46
  go_wp2
  all_goals
    go_ret
    refine ⟨ret_bool ?_, (Below.refl _ _).alloc (Nat.le_refl _) _⟩
    rw [Bool.eq_iff_iff]
    simp [*]
    try omega

/-- Do windows stand apart, from place k on? -/
def apartFrom (l : List (Int × Int)) (k : Nat) : Bool := (List.range' k (l.length - k)).all fun i => mayB (l.getD i (0, 0)) && (decide (i = 0) || decide ((l.getD (i - 1) (0, 0)).2 < (l.getD i (0, 0)).1))

theorem apartFrom_end (l : List (Int × Int)) : apartFrom l l.length = true := by simp [apartFrom]
theorem apartFrom_step (l : List (Int × Int)) (k : Nat) (hk : k < l.length) : apartFrom l k = (mayB (l.getD k (0, 0)) && (decide (k = 0) || decide ((l.getD (k - 1) (0, 0)).2 < (l.getD k (0, 0)).1)) && apartFrom l (k + 1)) := by
  unfold apartFrom
  rw [show l.length - k = (l.length - (k + 1)) + 1 by omega, List.range'_succ, List.all_cons]
theorem apartFrom_nil (k : Nat) : apartFrom [] k = true := by simp [apartFrom]

theorem RdW.cases {w : World} {B : Nat} {A : Option Addr} {l : List (Int × Int)} (h : RdW w B A l) : l = [] ∨ ∃ b off, A = some ⟨b, off, none⟩ ∧ b < B ∧ 0 < l.length ∧ ∀ i, i < l.length →
    w.cell? ⟨b, off + i * 2, none⟩ = some (.int .i64 (l.getD i (0, 0)).1) ∧ w.cell? ⟨b, off + i * 2 + 1, none⟩ = some (.int .i64 (l.getD i (0, 0)).2) := by
  rcases Nat.eq_zero_or_pos l.length with h0 | h0
  · exact .inl (List.eq_nil_of_length_eq_zero h0)
  · obtain ⟨b, off, e, hb, hc⟩ := h.2 h0
    exact .inr ⟨b, off, e, hb, h0, hc⟩

theorem apart_nil (A : Option Addr) (c : Nat) (w : World) :
    Calls Tryz.prog 26 #[.slice A 0 c] w fun e w' => e = .returned (.bool true) ∧ Below w.heap.size w w' := by
  go_enter Tryz.func26, Tryz.ntmps26
  go_wp2
  refine wp_loop_rounds 1 ?_
  rw [rounds_succ]
  go_wp2
  go_ret
  exact ⟨rfl, Below.refl _ _⟩

set_option maxHeartbeats 1000000 in
theorem apart_any (A : Option Addr) (c : Nat) (l : List (Int × Int)) (w : World) (hr : RdW w w.heap.size A l) (hc : l.length ≤ c) (r : Bool) (hr0 : apartFrom l 0 = r) :
    Calls Tryz.prog 26 #[.slice A l.length c] w fun e w' => e = .returned (.bool r) ∧ Below w.heap.size w w' := by
  rcases hr.cases with rfl | ⟨b, off, rfl, hb, hpos, hcell⟩
  · rw [← hr0, apartFrom_nil]
    exact apart_nil A c w
  have HR0 := Lib.hid hr0
  have HC := Lib.hid hcell
  have hml := hr.1
  clear hr0 hcell hr
  go_enter Tryz.func26, Tryz.ntmps26
  go_wp2
  go_loopw [7] (fun i wr => ∃ k : Nat, k ≤ l.length ∧ i = .int .i64 k ∧ apartFrom l k = r ∧ Below w.heap.size w wr) (fun i _ => l.length - (intOf i).toNat)
  case atStart => exact ⟨0, Nat.zero_le _, rfl, HR0.out, Below.refl _ _⟩
  case round =>
    obtain ⟨k, hk, rfl, hap, hbl⟩ := hrel
    by_cases hlt : k < l.length
    · have hst := apartFrom_step l k hlt
      rw [hap] at hst
      have hsz := hbl.size
      have hbw : b < wr.heap.size := by omega
      have c1 := (hbl.cell (p := ⟨b, off + k * 2, none⟩) hb).trans (HC.out k hlt).1
      have c2 := (hbl.cell (p := ⟨b, off + k * 2 + 1, none⟩) hb).trans (HC.out k hlt).2
      generalize hx : l.getD k (0, 0) = x at *
      obtain ⟨x1, x2⟩ := x
      generalize hm : mayB (x1, x2) = m at *
      have HX := Lib.hid hx
      have HM := Lib.hid hm
      have HST := Lib.hid hst
      have HAP := Lib.hid hap
      clear hx hm hst hap
      cases m
      · simp only [Bool.false_and] at HST
        go_wp2
        have e1 := ext_cell (w := wr.alloc (Obj.cells #[Value.int IntKind.i64 x1, Value.int IntKind.i64 x2] 54)) (p := ⟨wr.heap.size, 0, none⟩) (v := .int .i64 x1) (by go_simp)
        have e2 := ext_cell (w := wr.alloc (Obj.cells #[Value.int IntKind.i64 x1, Value.int IntKind.i64 x2] 54)) (p := ⟨wr.heap.size, 1, none⟩) (v := .int .i64 x2) (by go_simp)
        refine wp_region_ext (by kernel_rfl) (by kernel_rfl) ?_
        repeat (go_big_quiet_step ((go_at_call 46; exact ext_calls (wmay_any _ _ _ HM.out _))))
        refine wpQuiet_nil ?_
        rintro _ ⟨⟨w2, hb2⟩, rfl⟩
        clear e1 e2
        go_wp2
        go_ret
        exact ⟨ret_bool HST.out.symm, bl_then (bl_alloc hbl _) hb2⟩
      · simp only [Bool.true_and] at HST
        have hbx : ∀ w2, Below (wr.alloc (Obj.cells #[Value.int IntKind.i64 x1, Value.int IntKind.i64 x2] 54)).heap.size (wr.alloc (Obj.cells #[Value.int IntKind.i64 x1, Value.int IntKind.i64 x2] 54)) w2 → Below w.heap.size w w2 := fun w2 hb2 => bl_then (bl_alloc hbl _) hb2
        by_cases hk0 : k = 0
        · subst hk0
          simp only [decide_true, Bool.true_or, Bool.true_and] at HST
          simp only [Nat.zero_mul, Nat.add_zero] at c1 c2
          go_wp2
          have e1 := ext_cell (w := wr.alloc (Obj.cells #[Value.int IntKind.i64 x1, Value.int IntKind.i64 x2] 54)) (p := ⟨wr.heap.size, 0, none⟩) (v := .int .i64 x1) (by go_simp)
          have e2 := ext_cell (w := wr.alloc (Obj.cells #[Value.int IntKind.i64 x1, Value.int IntKind.i64 x2] 54)) (p := ⟨wr.heap.size, 1, none⟩) (v := .int .i64 x2) (by go_simp)
          refine wp_region_ext (by kernel_rfl) (by kernel_rfl) ?_
          repeat (go_big_quiet_step ((go_at_call 46; exact ext_calls (wmay_any _ _ _ HM.out _))))
          refine wpQuiet_nil ?_
          rintro _ ⟨⟨w2, hb2⟩, rfl⟩
          clear e1 e2
          go_wp2
          go_roundw
          case rel => exact ⟨1, hlt, rfl, HST.out.symm, hbx _ hb2⟩
          case measure => simp [intOf]; omega
        · have hk1 : 0 < (k : Int) := by omega
          have c3 := (hbl.cell (p := ⟨b, off + (k - 1) * 2 + 1, none⟩) hb).trans (HC.out (k - 1) (by omega)).2
          generalize hy : (l.getD (k - 1) (0, 0)).2 = y at *
          clear hy
          have hkd : decide (0 < k) = true := by simp; omega
          have g0 : 0 ≤ (k : Int) - 1 := by omega
          have g1 : (k : Int) - 1 < (l.length : Int) := by omega
          rw [decide_eq_false hk0, Bool.false_or] at HST
          by_cases hlt2 : y < x1
          · rw [decide_eq_true hlt2, Bool.true_and] at HST
            go_wp2
            have e1 := ext_cell (w := wr.alloc (Obj.cells #[Value.int IntKind.i64 x1, Value.int IntKind.i64 x2] 54)) (p := ⟨wr.heap.size, 0, none⟩) (v := .int .i64 x1) (by go_simp)
            have e2 := ext_cell (w := wr.alloc (Obj.cells #[Value.int IntKind.i64 x1, Value.int IntKind.i64 x2] 54)) (p := ⟨wr.heap.size, 1, none⟩) (v := .int .i64 x2) (by go_simp)
            have e3 := ext_cell (w := wr.alloc (Obj.cells #[Value.int IntKind.i64 x1, Value.int IntKind.i64 x2] 54)) (p := ⟨b, off + (k - 1) * 2 + 1, none⟩) (v := .int .i64 y) (by go_simp)
            refine wp_region_ext (by kernel_rfl) (by kernel_rfl) ?_
            repeat (go_big_quiet_step ((go_at_call 46; exact ext_calls (wmay_any _ _ _ HM.out _))))
            refine wpQuiet_nil ?_
            rintro _ ⟨⟨w2, hb2⟩, rfl⟩
            clear e1 e2 e3
            go_wp2
            go_roundw
            case rel => exact ⟨k + 1, hlt, by go_num, HST.out.symm, hbx _ hb2⟩
            case measure => simp [intOf]; omega
          · rw [decide_eq_false hlt2, Bool.false_and] at HST
            have hlt3 : x1 ≤ y := by omega
            clear hlt2
            go_wp2
            have e1 := ext_cell (w := wr.alloc (Obj.cells #[Value.int IntKind.i64 x1, Value.int IntKind.i64 x2] 54)) (p := ⟨wr.heap.size, 0, none⟩) (v := .int .i64 x1) (by go_simp)
            have e2 := ext_cell (w := wr.alloc (Obj.cells #[Value.int IntKind.i64 x1, Value.int IntKind.i64 x2] 54)) (p := ⟨wr.heap.size, 1, none⟩) (v := .int .i64 x2) (by go_simp)
            have e3 := ext_cell (w := wr.alloc (Obj.cells #[Value.int IntKind.i64 x1, Value.int IntKind.i64 x2] 54)) (p := ⟨b, off + (k - 1) * 2 + 1, none⟩) (v := .int .i64 y) (by go_simp)
            refine wp_region_ext (by kernel_rfl) (by kernel_rfl) ?_
            repeat (go_big_quiet_step ((go_at_call 46; exact ext_calls (wmay_any _ _ _ HM.out _))))
            refine wpQuiet_nil ?_
            rintro _ ⟨⟨w2, hb2⟩, rfl⟩
            clear e1 e2 e3
            go_wp2
            go_ret
            exact ⟨ret_bool HST.out.symm, hbx _ hb2⟩
    · have hkl : k = l.length := by omega
      have hr1 : r = true := by rw [← hap, hkl]; exact apartFrom_end l
      have HR1 := Lib.hid hr1
      clear hr1 hkl hap
      go_wp2
      go_ret
      exact ⟨ret_bool HR1.out.symm, hbl⟩
end Go.Proofs.YtfojblbnhapedaaGreatDoor
namespace Go.Proofs.YtfojblbnhapedaaGreatDoor
open Go.RowKit
set_option linter.unusedVariables false
set_option linter.unusedSimpArgs false

/-- The world of a goal under a letter, with what is known of it. -/
theorem absW {G : World → Prop} {W : World} (F : World → Prop) (hF : F W) (h : ∀ w, F w → G w) : G W := h W hF
def meetB (y x : Int × Int) : Bool := decide (y.1 ≤ x.2) && decide (x.1 ≤ y.2)
def oneS (x o y : Int × Int) : Int × Int := if meetB y x then (min o.1 y.1, max o.2 y.2) else o
def oneF (x : Int × Int) (l : List (Int × Int)) : Int × Int := l.foldl (oneS x) x
def goneF (x : Int × Int) (l : List (Int × Int)) : List (Int × Int) := l.filter fun y => meetB y x
def restS (o : Int × Int) (s : List (Int × Int) × Bool) (y : Int × Int) : List (Int × Int) × Bool :=
  let t := if !s.2 && decide (o.1 ≤ y.1) then (s.1 ++ [o], true) else s
  if decide (y.1 < o.1) || decide (o.2 < y.1) then (t.1 ++ [y], t.2) else t
def restF (o : Int × Int) (l : List (Int × Int)) : List (Int × Int) × Bool := l.foldl (restS o) ([], false)
def restL (o : Int × Int) (l : List (Int × Int)) : List (Int × Int) := if (restF o l).2 then (restF o l).1 else (restF o l).1 ++ [o]

theorem wtake_snoc (l : List (Int × Int)) (k : Nat) (h : k < l.length) : l.take (k + 1) = l.take k ++ [l.getD k (0, 0)] := by
  rw [List.take_succ_eq_append_getElem h, List.getD_eq_getElem?_getD, List.getElem?_eq_getElem h]; rfl
theorem oneF_snoc (x : Int × Int) (l : List (Int × Int)) (y : Int × Int) : oneF x (l ++ [y]) = oneS x (oneF x l) y := by simp [oneF]
theorem goneF_snoc (x : Int × Int) (l : List (Int × Int)) (y : Int × Int) : goneF x (l ++ [y]) = if meetB y x then goneF x l ++ [y] else goneF x l := by
  simp [goneF, List.filter_cons]; split <;> simp
theorem goneF_len (x : Int × Int) (l : List (Int × Int)) : (goneF x l).length ≤ l.length := List.length_filter_le _ _
theorem restF_snoc (o : Int × Int) (l : List (Int × Int)) (y : Int × Int) : restF o (l ++ [y]) = restS o (restF o l) y := by simp [restF]
theorem restF_len (o : Int × Int) (l : List (Int × Int)) : (restF o l).1.length ≤ l.length + (restF o l).2.toNat := by
  suffices h : ∀ (l : List (Int × Int)) (s : List (Int × Int) × Bool) (n : Nat), s.1.length ≤ n + s.2.toNat → (l.foldl (restS o) s).1.length ≤ l.length + n + (l.foldl (restS o) s).2.toNat by
    simpa [restF] using h l ([], false) 0 (by simp)
  intro l
  induction l with
  | nil => intro s n h; simpa using h
  | cons y l ih =>
    intro s n h
    have := ih (restS o s y) (n + 1) (by
      obtain ⟨r, p⟩ := s
      unfold restS
      cases p <;> simp at h ⊢ <;> (repeat' split) <;> simp_all <;> omega)
    simp only [List.foldl_cons, List.length_cons]
    omega

/-- append of one window, from a slice that was just built, to a row of the call's own. -/
theorem wpList_append_w {ops : Array Oper} {rest : List Oper} {o : Oper} {a : Act} {Q : Exit → Act → World → Prop} (w : World) (hgd : o.guard = none) (s x : Operand)
    (ho : o.op = .call { callee := .builtin .append, args := #[s, x], argTypes := #[73, 73] }) (base n : Nat) (v : Value) (xs : List Value) (hs : a.eval s = v) (hown : w.ownsRow base 54 2 v n xs)
    (g : Nat) (p q : Int) (hx : a.eval x = .slice (some ⟨g, 0, none⟩) 1 1) (c1 : w.cell? ⟨g, 0, none⟩ = some (.int .i64 p)) (c2 : w.cell? ⟨g, 1, none⟩ = some (.int .i64 q)) (hn : n ≤ 1000001) (hbase : base ≤ w.heap.size)
    (h : ∀ v' w', w'.ownsRow base 54 2 v' (n + 1) (xs ++ [.int .i64 p, .int .i64 q]) → w.grownBy w' v.ownBlock → wpList Tryz.prog ops Q rest (a.put o.dst v') w') : wpList Tryz.prog ops Q (o :: rest) a w := by
  obtain ⟨i0, hi, hz0, hz1, hz2⟩ := info_parts Tryz.info54
  refine wpList_append_own w hgd s x 73 ho base 54 i0 (.agg #[.int .i64 0, .int .i64 0]) 2 16 Tryz.underlying73 hi hz0 hz1 hz2 rfl (by decide) v n xs hs hown ⟨g, 0, none⟩ 1 1 [.int .i64 p, .int .i64 q] hx rfl ?_ (by simp [Value.oneCell']) (by simp [maxLen]; omega) (by omega) hbase (fun v' w' h1 h2 _ => h v' w' h1 h2)
  intro j u hu
  rw [Addr.add_lit, Nat.zero_add]
  match j, hu with
  | 0, hu => simp at hu; rw [c1, hu]
  | 1, hu => simp at hu; rw [c2, hu]
theorem wcells_snoc (l : List (Int × Int)) (p q : Int) : wcells (l ++ [(p, q)]) = wcells l ++ [.int .i64 p, .int .i64 q] := by simp [wcells]

theorem own_below {w w1 : World} {base e size n : Nat} {v : Value} {xs : List Value} (h : w.ownsRow base e size v n xs) (hb : Below w.heap.size w w1) : w1.ownsRow base e size v n xs :=
  h.kept (row := none) ⟨hb.os, hb.tape, hb.output, hb.size, fun i hi _ => hb.block i hi⟩ (by cases v.ownBlock <;> simp)

/-- What Merge's two variables hold: x as it came, and the one that grows. -/
structure MI (w wr : World) (x o : Int × Int) : Prop where
  x1 : wr.cell? ⟨w.heap.size, 0, none⟩ = some (.int .i64 x.1)
  x2 : wr.cell? ⟨w.heap.size, 1, none⟩ = some (.int .i64 x.2)
  o1 : wr.cell? ⟨w.heap.size + 1, 0, none⟩ = some (.int .i64 o.1)
  o2 : wr.cell? ⟨w.heap.size + 1, 1, none⟩ = some (.int .i64 o.2)
  f1 : wr.frozen? ⟨w.heap.size + 1, 0, none⟩ = false
  f2 : wr.frozen? ⟨w.heap.size + 1, 1, none⟩ = false
  bl : Below w.heap.size w wr
  sz : w.heap.size + 2 ≤ wr.heap.size
theorem MI.keep {w wr wr' : World} {x o : Int × Int} (h : MI w wr x o) (hb : Below (w.heap.size + 2) wr wr') : MI w wr' x o :=
  ⟨(hb.cell (p := ⟨w.heap.size, 0, none⟩) (by simp)).trans h.x1, (hb.cell (p := ⟨w.heap.size, 1, none⟩) (by simp)).trans h.x2,
   (hb.cell (p := ⟨w.heap.size + 1, 0, none⟩) (by simp)).trans h.o1, (hb.cell (p := ⟨w.heap.size + 1, 1, none⟩) (by simp)).trans h.o2,
   (hb.frozen (p := ⟨w.heap.size + 1, 0, none⟩) (by simp)).trans h.f1, (hb.frozen (p := ⟨w.heap.size + 1, 1, none⟩) (by simp)).trans h.f2,
   h.bl.trans (hb.mono (by omega)), Nat.le_trans h.sz hb.size⟩
theorem MI.set {w wr : World} {x o : Int × Int} (h : MI w wr x o) (a b : Int) : MI w ((wr.setCell ⟨w.heap.size + 1, 0, none⟩ (.int .i64 a)).setCell ⟨w.heap.size + 1, 1, none⟩ (.int .i64 b)) x (a, b) := by
  obtain ⟨x1, x2, o1, o2, f1, f2, bl, sz⟩ := h
  refine ⟨by go_simp, by go_simp, by go_simp, by go_simp, by go_simp, by go_simp, (bl.setCell (p := ⟨w.heap.size + 1, 0, none⟩) (by simp) _).setCell (p := ⟨w.heap.size + 1, 1, none⟩) (by simp) _, by simpa [World.setCell] using sz⟩

set_option maxRecDepth 100000 in
set_option maxHeartbeats 1000000 in
theorem merge_yes (b off c : Nat) (l : List (Int × Int)) (x1 x2 : Int) (w : World) (hr : RdW w w.heap.size (some ⟨b, off, none⟩) l) (hb : b < w.heap.size) (hc : l.length ≤ c) (hn : l.length ≤ 1000000) (hap : apartFrom l 0 = true) (hm : mayB (x1, x2) = true)
    (hcell : ∀ i, i < l.length → w.cell? ⟨b, off + i * 2, none⟩ = some (.int .i64 (l.getD i (0, 0)).1) ∧ w.cell? ⟨b, off + i * 2 + 1, none⟩ = some (.int .i64 (l.getD i (0, 0)).2)) :
    Calls Tryz.prog 85 #[.slice (some ⟨b, off, none⟩) l.length c, .agg #[.int .i64 x1, .int .i64 x2]] w fun e w' => ∃ vg vr, e = .returned (.tuple #[.agg #[.int .i64 (oneF (x1, x2) l).1, .int .i64 (oneF (x1, x2) l).2], vg, vr, .int .i64 0]) ∧
      w'.ownsRow w.heap.size 54 2 vg (goneF (x1, x2) l).length (wcells (goneF (x1, x2) l)) ∧ w'.ownsRow w.heap.size 54 2 vr (restL (oneF (x1, x2) l) l).length (wcells (restL (oneF (x1, x2) l) l)) ∧ Below w.heap.size w w' := by
  have HC := Lib.hid hcell
  have HAP := Lib.hid hap
  have HM := Lib.hid hm
  have HR := Lib.hid hr
  clear hcell hap hm hr
  go_enter Tryz.func85, Tryz.ntmps85
  go_wp2_with (fail)
  refine (apart_any _ _ l _ ?_ hc true HAP.out).mono ?_
  · exact (HR.out.below (bl_alloc (bl_alloc (Below.refl _ _) _) _)).more (by simp; omega)
  rintro e w1 ⟨rfl, hb1⟩
  have hx1 : w1.cell? ⟨w.heap.size, 0, none⟩ = some (.int .i64 x1) := (hb1.cell (p := ⟨w.heap.size, 0, none⟩) (by simp; omega)).trans (by go_simp)
  have hx2 : w1.cell? ⟨w.heap.size, 1, none⟩ = some (.int .i64 x2) := (hb1.cell (p := ⟨w.heap.size, 1, none⟩) (by simp; omega)).trans (by go_simp)
  have ho1 : w1.cell? ⟨w.heap.size + 1, 0, none⟩ = some (.int .i64 0) := (hb1.cell (p := ⟨w.heap.size + 1, 0, none⟩) (by simp)).trans (by go_simp)
  have ho2 : w1.cell? ⟨w.heap.size + 1, 1, none⟩ = some (.int .i64 0) := (hb1.cell (p := ⟨w.heap.size + 1, 1, none⟩) (by simp)).trans (by go_simp)
  have hf1 : w1.frozen? ⟨w.heap.size + 1, 0, none⟩ = false := (hb1.frozen (p := ⟨w.heap.size + 1, 0, none⟩) (by simp)).trans (by go_simp)
  have hf2 : w1.frozen? ⟨w.heap.size + 1, 1, none⟩ = false := (hb1.frozen (p := ⟨w.heap.size + 1, 1, none⟩) (by simp)).trans (by go_simp)
  have hbw : Below w.heap.size w w1 := bl_then (bl_alloc (bl_alloc (Below.refl _ _) _) _) hb1
  have hsz1 : w.heap.size + 2 ≤ w1.heap.size := by have := hb1.size; simpa using this
  clear hb1
  go_wp2_with (fail)
  refine (wmay_any _ _ true HM.out _).mono ?_
  rintro e w2 ⟨rfl, hb2⟩
  have hx1 := (hb2.cell (p := ⟨w.heap.size, 0, none⟩) (by simp; omega)).trans hx1
  have hx2 := (hb2.cell (p := ⟨w.heap.size, 1, none⟩) (by simp; omega)).trans hx2
  have ho1 := (hb2.cell (p := ⟨w.heap.size + 1, 0, none⟩) (by simp; omega)).trans ho1
  have ho2 := (hb2.cell (p := ⟨w.heap.size + 1, 1, none⟩) (by simp; omega)).trans ho2
  have hf1 := (hb2.frozen (p := ⟨w.heap.size + 1, 0, none⟩) (by simp; omega)).trans hf1
  have hf2 := (hb2.frozen (p := ⟨w.heap.size + 1, 1, none⟩) (by simp; omega)).trans hf2
  have hbw := bl_then hbw hb2
  have hsz := Nat.le_trans hsz1 hb2.size
  clear hb2 hsz1
  have hmi0 : MI w w2 (x1, x2) (0, 0) := ⟨hx1, hx2, ho1, ho2, hf1, hf2, hbw, hsz⟩
  go_wp2_with (fail)
  have hmi := hmi0.set x1 x2
  obtain ⟨i0, hi, hz0, hz1, hz2⟩ := info_parts Tryz.info54
  clear hmi0 hx1 hx2 ho1 ho2 hf1 hf2 hbw hsz
  have HMI := Lib.hid hmi
  clear hmi
  go_loopw [5, 25] (fun v i wr => ∃ k : Nat, k ≤ l.length ∧ i = .int .i64 k ∧ wr.ownsRow (w.heap.size + 2) 54 2 v (goneF (x1, x2) (l.take k)).length (wcells (goneF (x1, x2) (l.take k))) ∧ MI w wr (x1, x2) (oneF (x1, x2) (l.take k))) (fun _ i _ => l.length - (intOf i).toNat)
  case atStart => exact ⟨0, Nat.zero_le _, rfl, World.ownsRow_nil _ _ _ _, HMI.out⟩
  case round =>
    obtain ⟨k, hk, rfl, hown, hmi⟩ := hrel
    by_cases hlt : k < l.length
    · obtain ⟨x1', x2', o1, o2, f1, f2, bl, sz⟩ := id hmi
      have c1 := (bl.cell (p := ⟨b, off + k * 2, none⟩) hb).trans (HC.out k hlt).1
      have c2 := (bl.cell (p := ⟨b, off + k * 2 + 1, none⟩) hb).trans (HC.out k hlt).2
      have hbw : b < wr.heap.size := by omega
      have hts := wtake_snoc l k hlt
      have hgs := goneF_snoc (x1, x2) (l.take k) (l.getD k (0, 0))
      have hos := oneF_snoc (x1, x2) (l.take k) (l.getD k (0, 0))
      have hgl := goneF_len (x1, x2) (l.take k)
      have hl2 : (l.take k).length ≤ k := List.length_take_le _ _
      rw [← hts] at hgs hos
      clear hts
      generalize hy : l.getD k (0, 0) = y at *
      obtain ⟨y1, y2⟩ := y
      generalize hoo : oneF (x1, x2) (l.take k) = o at *
      obtain ⟨p1, p2⟩ := o
      generalize goneF (x1, x2) (l.take k) = G at *
      have HGS := Lib.hid hgs
      have HOS := Lib.hid hos
      have HMI2 := Lib.hid hmi
      have HOWN := Lib.hid hown
      clear hgs hos hmi hown hy hoo
      dsimp only at x1' x2' o1 o2
      have z0 : w.heap.size < wr.heap.size := by omega
      have z1 : w.heap.size + 1 < wr.heap.size := by omega
      by_cases hq : y1 ≤ x2
      · by_cases hq2 : x1 ≤ y2
        · go_wp2
          go_region
          generalize hmn : (if y1 < p1 then y1 else p1) = mn
          generalize hmx : (if p2 < y2 then y2 else p2) = mx
          have hoo : oneS (x1, x2) (p1, p2) (y1, y2) = (mn, mx) := by
            simp [oneS, meetB, hq, hq2, ← hmn, ← hmx, Int.min_def, Int.max_def]
            omega
          have HOO := Lib.hid hoo
          clear hmn hmx hoo
          refine absW (G := Exit.then _ _ Exit.normal _) (fun W => MI w W (x1, x2) (mn, mx) ∧ W.ownsRow (w.heap.size + 2) 54 2 u5 G.length (wcells G) ∧ W.cell? ⟨wr.heap.size, 0, none⟩ = some (.int .i64 y1) ∧ W.cell? ⟨wr.heap.size, 1, none⟩ = some (.int .i64 y2) ∧ wr.heap.size < W.heap.size) ?_ ?_
          · refine ⟨(HMI2.out.set mn mx).keep (((Below.refl _ _).alloc (HMI2.out.set mn mx).sz _).drew), ((ownsRow_setCell_below (ownsRow_setCell_below HOWN.out (by simp) _) (by simp) _).alloc _).drew, by go_simp, by go_simp, by simp [World.setCell]⟩
          rintro w3 ⟨hmi3, hown3, yc1, yc2, hsz3⟩
          have HO3 := Lib.hid hown3
          clear hown3
          go_wp2_with (at_builtin; refine wpList_append_w _ rfl _ _ rfl (w.heap.size + 2) _ _ _ rfl (HO3.out.alloc _) w3.heap.size y1 y2 rfl (by go_simp) (by go_simp) (by omega) (by have := hmi3.sz; simp; omega) ?_)
          intro v' w4 hown4 hgrow
          have hb4 : Below (w.heap.size + 2) w3 w4 := ((Below.refl _ _).alloc hmi3.sz _).grown hgrow (by have := hmi3.sz; simp; omega) (fun g hg => (HO3.out.lt g hg).1)
          have hmi4 := hmi3.keep hb4
          have H4 := Lib.hid hown4
          have HM4 := Lib.hid hmi4
          clear hown4 hmi4 hmi3
          go_wp2
          go_roundw
          case rel => exact ⟨k + 1, hlt, by go_num, by rw [HGS.out, if_pos (by simp [meetB, hq, hq2]), wcells_snoc, List.length_append]; exact H4.out, by rw [HOS.out, HOO.out]; exact HM4.out⟩
          case measure => simp [intOf]; omega
        · go_wp2
          go_roundw
          case rel => exact ⟨k + 1, hlt, by go_num, by rw [HGS.out, if_neg (by simp [meetB]; omega)]; exact HOWN.out.alloc _, by rw [HOS.out, oneS, if_neg (by simp [meetB]; omega)]; exact HMI2.out.keep ((Below.refl _ _).alloc HMI2.out.sz _)⟩
          case measure => simp [intOf]; omega
      · go_wp2
        go_roundw
        case rel => exact ⟨k + 1, hlt, by go_num, by rw [HGS.out, if_neg (by simp [meetB]; omega)]; exact HOWN.out.alloc _, by rw [HOS.out, oneS, if_neg (by simp [meetB]; omega)]; exact HMI2.out.keep ((Below.refl _ _).alloc HMI2.out.sz _)⟩
        case measure => simp [intOf]; omega
    · have hkl : k = l.length := by omega
      subst hkl
      rw [List.take_length] at hown hmi
      have HMI2 := Lib.hid hmi
      have HOWN := Lib.hid hown
      clear hown hmi
      generalize hoo : oneF (x1, x2) l = o at *
      obtain ⟨p1, p2⟩ := o
      generalize hgg : goneF (x1, x2) l = G at *
      have HOE := Lib.hid hoo
      have HGE := Lib.hid hgg
      clear hoo hgg
      go_wp2
      obtain ⟨W0, hW0⟩ : ∃ W0 : World, W0 = wr := ⟨_, rfl⟩
      subst hW0
      go_loopw [6, 10, 60] (fun v pt i wr => ∃ k : Nat, k ≤ l.length ∧ i = .int .i64 k ∧ pt = .bool (restF (p1, p2) (l.take k)).2 ∧ wr.ownsRow W0.heap.size 54 2 v (restF (p1, p2) (l.take k)).1.length (wcells (restF (p1, p2) (l.take k)).1) ∧ Below W0.heap.size W0 wr) (fun _ _ i _ => l.length - (intOf i).toNat)
      case atStart => exact ⟨0, Nat.zero_le _, rfl, rfl, World.ownsRow_nil _ _ _ _, Below.refl _ _⟩
      case round =>
        obtain ⟨k, hk, rfl, rfl, hown2, hbl2⟩ := hrel
        have hmi2 : MI w wr (x1, x2) (p1, p2) := HMI2.out.keep (hbl2.mono HMI2.out.sz)
        have HM := Lib.hid hmi2
        obtain ⟨x1', x2', o1, o2, f1, f2, bl, sz⟩ := id hmi2
        dsimp only at x1' x2' o1 o2
        have z0 : w.heap.size < wr.heap.size := by omega
        have z1 : w.heap.size + 1 < wr.heap.size := by omega
        have HO2 := Lib.hid hown2
        clear hown2 hmi2
        by_cases hlt : k < l.length
        · have c1 := (bl.cell (p := ⟨b, off + k * 2, none⟩) hb).trans (HC.out k hlt).1
          have c2 := (bl.cell (p := ⟨b, off + k * 2 + 1, none⟩) hb).trans (HC.out k hlt).2
          have hbw : b < wr.heap.size := by omega
          have hts := wtake_snoc l k hlt
          have hrs := restF_snoc (p1, p2) (l.take k) (l.getD k (0, 0))
          have hrl := restF_len (p1, p2) (l.take k)
          have hl2 : (l.take k).length ≤ k := List.length_take_le _ _
          rw [← hts] at hrs
          clear hts
          generalize hy : l.getD k (0, 0) = y at *
          obtain ⟨y1, y2⟩ := y
          generalize restF (p1, p2) (l.take k) = R at *
          obtain ⟨rr, rp⟩ := R
          dsimp only at hrl HO2 ⊢
          have hrl2 : rr.length ≤ k + 1 := by have := Bool.toNat_le rp; omega
          have HRS := Lib.hid hrs
          clear hrs hy hrl
          cases rp
          · by_cases hq1 : p1 ≤ y1
            · have hnq : ¬ y1 < p1 := by omega
              by_cases hq3 : p2 < y1
              · have hr2 : restF (p1, p2) (l.take (k + 1)) = ((rr ++ [(p1, p2)]) ++ [(y1, y2)], true) := by rw [HRS.out]; simp [restS, hq1, hq3]
                have HR2 := Lib.hid hr2
                clear hr2 hnq
                go_wp2_with (at_builtin; refine wpList_append_w _ rfl _ _ rfl W0.heap.size _ _ _ rfl ((HO2.out.alloc _).alloc _) (wr.heap.size + 1) p1 p2 rfl (by go_simp) (by go_simp) (by omega) (by have := hbl2.size; simp; omega) ?_)
                intro v' w4 hown4 hgrow
                have hb4 : Below W0.heap.size W0 w4 := (bl_alloc (bl_alloc hbl2 _) _).grown hgrow (by have := hbl2.size; simp; omega) (fun g hg => (HO2.out.lt g hg).1)
                have ya : some wr.heap.size ≠ (Value.ownBlock _) := fun e => by have := (HO2.out.lt _ e.symm).2; omega
                have yc1 := hgrow.cell (a := ⟨wr.heap.size, 0, none⟩) (v := .int .i64 y1) (by go_simp) ya
                have yc2 := hgrow.cell (a := ⟨wr.heap.size, 1, none⟩) (v := .int .i64 y2) (by go_simp) ya
                have hmi4 := HMI2.out.keep (hb4.mono HMI2.out.sz)
                obtain ⟨x1'', x2'', o1'', o2'', f1'', f2'', bl'', sz''⟩ := id hmi4
                dsimp only at x1'' x2'' o1'' o2''
                have H4 := Lib.hid hown4
                clear hown4 hmi4 ya
                go_wp2_with (at_builtin; refine wpList_append_w _ rfl _ _ rfl W0.heap.size _ _ _ rfl (H4.out.alloc _) w4.heap.size y1 y2 rfl (by go_simp) (by go_simp) (by simp; omega) (by have := hb4.size; simp; omega) ?_)
                intro v'' w5 hown5 hgrow5
                have hb5 : Below W0.heap.size W0 w5 := (bl_alloc hb4 _).grown hgrow5 (by have := hb4.size; simp; omega) (fun g hg => (H4.out.lt g hg).1)
                have H5 := Lib.hid hown5
                clear hown5
                go_wp2
                go_roundw
                case rel => exact ⟨k + 1, hlt, by go_num, by rw [HR2.out], by rw [HR2.out, wcells_snoc, wcells_snoc, List.length_append, List.length_append]; simpa using H5.out, hb5⟩
                case measure => simp [intOf]; omega
              · have hr2 : restF (p1, p2) (l.take (k + 1)) = (rr ++ [(p1, p2)], true) := by rw [HRS.out]; simp [restS, hq1, hnq, hq3]
                have HR2 := Lib.hid hr2
                clear hr2 hnq
                go_wp2_with (at_builtin; refine wpList_append_w _ rfl _ _ rfl W0.heap.size _ _ _ rfl ((HO2.out.alloc _).alloc _) (wr.heap.size + 1) p1 p2 rfl (by go_simp) (by go_simp) (by omega) (by have := hbl2.size; simp; omega) ?_)
                intro v' w4 hown4 hgrow
                have hb4 : Below W0.heap.size W0 w4 := (bl_alloc (bl_alloc hbl2 _) _).grown hgrow (by have := hbl2.size; simp; omega) (fun g hg => (HO2.out.lt g hg).1)
                have ya : some wr.heap.size ≠ (Value.ownBlock _) := fun e => by have := (HO2.out.lt _ e.symm).2; omega
                have yc1 := hgrow.cell (a := ⟨wr.heap.size, 0, none⟩) (v := .int .i64 y1) (by go_simp) ya
                have yc2 := hgrow.cell (a := ⟨wr.heap.size, 1, none⟩) (v := .int .i64 y2) (by go_simp) ya
                have hmi4 := HMI2.out.keep (hb4.mono HMI2.out.sz)
                obtain ⟨x1'', x2'', o1'', o2'', f1'', f2'', bl'', sz''⟩ := id hmi4
                dsimp only at x1'' x2'' o1'' o2''
                have H4 := Lib.hid hown4
                clear hown4 hmi4 ya
                go_wp2
                go_roundw
                case rel => exact ⟨k + 1, hlt, by go_num, by rw [HR2.out], by rw [HR2.out, wcells_snoc, List.length_append]; exact H4.out, hb4⟩
                case measure => simp [intOf]; omega
            · have hq2 : y1 < p1 := by omega
              have hr2 : restF (p1, p2) (l.take (k + 1)) = (rr ++ [(y1, y2)], false) := by rw [HRS.out]; simp [restS, hq1, hq2]
              have HR2 := Lib.hid hr2
              clear hr2
              go_wp2_with (at_builtin; refine wpList_append_w _ rfl _ _ rfl W0.heap.size _ _ _ rfl ((HO2.out.alloc _).alloc _) (wr.heap.size + 1) y1 y2 rfl (by go_simp) (by go_simp) (by omega) (by have := hbl2.size; simp; omega) ?_)
              intro v' w4 hown4 hgrow
              have hb4 : Below W0.heap.size W0 w4 := (bl_alloc (bl_alloc hbl2 _) _).grown hgrow (by have := hbl2.size; simp; omega) (fun g hg => (HO2.out.lt g hg).1)
              have H4 := Lib.hid hown4
              clear hown4
              go_wp2
              go_roundw
              case rel => exact ⟨k + 1, hlt, by go_num, by rw [HR2.out], by rw [HR2.out, wcells_snoc, List.length_append]; exact H4.out, hb4⟩
              case measure => simp [intOf]; omega
          · by_cases hq2 : y1 < p1
            · have hr2 : restF (p1, p2) (l.take (k + 1)) = (rr ++ [(y1, y2)], true) := by rw [HRS.out]; simp [restS, hq2]
              have HR2 := Lib.hid hr2
              clear hr2
              go_wp2_with (at_builtin; refine wpList_append_w _ rfl _ _ rfl W0.heap.size _ _ _ rfl ((HO2.out.alloc _).alloc _) (wr.heap.size + 1) y1 y2 rfl (by go_simp) (by go_simp) (by omega) (by have := hbl2.size; simp; omega) ?_)
              intro v' w4 hown4 hgrow
              have hb4 : Below W0.heap.size W0 w4 := (bl_alloc (bl_alloc hbl2 _) _).grown hgrow (by have := hbl2.size; simp; omega) (fun g hg => (HO2.out.lt g hg).1)
              have H4 := Lib.hid hown4
              clear hown4
              go_wp2
              go_roundw
              case rel => exact ⟨k + 1, hlt, by go_num, by rw [HR2.out], by rw [HR2.out, wcells_snoc, List.length_append]; exact H4.out, hb4⟩
              case measure => simp [intOf]; omega
            · by_cases hq3 : p2 < y1
              · have hr2 : restF (p1, p2) (l.take (k + 1)) = (rr ++ [(y1, y2)], true) := by rw [HRS.out]; simp [restS, hq3]
                have HR2 := Lib.hid hr2
                clear hr2
                go_wp2_with (at_builtin; refine wpList_append_w _ rfl _ _ rfl W0.heap.size _ _ _ rfl ((HO2.out.alloc _).alloc _) (wr.heap.size + 1) y1 y2 rfl (by go_simp) (by go_simp) (by omega) (by have := hbl2.size; simp; omega) ?_)
                intro v' w4 hown4 hgrow
                have hb4 : Below W0.heap.size W0 w4 := (bl_alloc (bl_alloc hbl2 _) _).grown hgrow (by have := hbl2.size; simp; omega) (fun g hg => (HO2.out.lt g hg).1)
                have H4 := Lib.hid hown4
                clear hown4
                go_wp2
                go_roundw
                case rel => exact ⟨k + 1, hlt, by go_num, by rw [HR2.out], by rw [HR2.out, wcells_snoc, List.length_append]; exact H4.out, hb4⟩
                case measure => simp [intOf]; omega
              · have hr2 : restF (p1, p2) (l.take (k + 1)) = (rr, true) := by rw [HRS.out]; simp [restS, hq2, hq3]
                have HR2 := Lib.hid hr2
                clear hr2
                go_wp2
                go_roundw
                case rel => exact ⟨k + 1, hlt, by go_num, by rw [HR2.out], by rw [HR2.out]; exact HO2.out.alloc _, bl_alloc hbl2 _⟩
                case measure => simp [intOf]; omega
        · have hkl : k = l.length := by omega
          subst hkl
          rw [List.take_length] at HO2 ⊢
          have hrl := restF_len (p1, p2) l
          generalize hrr : restF (p1, p2) l = R at *
          obtain ⟨rr, rp⟩ := R
          have HRR := Lib.hid hrr
          clear hrr
          dsimp only at hrl HO2 ⊢
          have hgn : W0.ownsRow w.heap.size 54 2 u5 G.length (wcells G) := own_weaken HOWN.out (by omega)
          have hrl2 : rr.length ≤ 1000001 := by have := Bool.toNat_le rp; omega
          have HGN := Lib.hid hgn
          clear hgn hrl
          cases rp
          · go_wp2_with (at_builtin; refine wpList_append_w _ rfl _ _ rfl W0.heap.size _ _ _ rfl (HO2.out.alloc _) (wr.heap.size) p1 p2 rfl (by go_simp) (by go_simp) (by omega) (by have := hbl2.size; simp; omega) ?_)
            intro v' w4 hown4 hgrow
            have hb4 : Below W0.heap.size W0 w4 := (bl_alloc hbl2 _).grown hgrow (by have := hbl2.size; simp; omega) (fun g hg => (HO2.out.lt g hg).1)
            have hmi4 := HMI2.out.keep (hb4.mono HMI2.out.sz)
            obtain ⟨x1'', x2'', o1'', o2'', f1'', f2'', bl'', sz''⟩ := id hmi4
            dsimp only at x1'' x2'' o1'' o2''
            have H4 := Lib.hid hown4
            clear hown4 hmi4
            go_wp2
            refine bodyPost_ret (v := .tuple #[.agg #[.int .i64 p1, .int .i64 p2], u5, v', .int .i64 0]) (by simp only [results, Tryz.results85]; go_simp) rfl ?_
            have hO := HOE.out
            have hG := HGE.out
            have hR : restL (p1, p2) l = rr ++ [(p1, p2)] := by unfold restL; rw [HRR.out]; rfl
            refine ⟨u5, v', by rw [hO], ?_, ?_, ?_⟩
            · rw [hG]
              exact own_weaken (ownsRow_setCell_below (ownsRow_setCell_below (own_below HOWN.out hb4) (by simp) _) (by simp) _) (by omega)
            · rw [hO, hR, wcells_snoc, List.length_append]
              exact own_weaken (ownsRow_setCell_below (ownsRow_setCell_below H4.out (by have := HMI2.out.sz; simp; omega) _) (by have := HMI2.out.sz; simp; omega) _) (by have := HMI2.out.sz; omega)
            · exact (bl''.setCell (p := ⟨w.heap.size + 1, 0, none⟩) (by simp) _).setCell (p := ⟨w.heap.size + 1, 1, none⟩) (by simp) _
          · go_wp2
            refine bodyPost_ret (v := .tuple #[.agg #[.int .i64 p1, .int .i64 p2], u5, u6, .int .i64 0]) (by simp only [results, Tryz.results85]; go_simp) rfl ?_
            have hO := HOE.out
            have hG := HGE.out
            have hR : restL (p1, p2) l = rr := by unfold restL; rw [HRR.out]; rfl
            refine ⟨u5, u6, by rw [hO], ?_, ?_, ?_⟩
            · rw [hG]
              exact own_weaken (ownsRow_setCell_below (ownsRow_setCell_below (own_below HOWN.out hbl2) (by simp) _) (by simp) _) (by omega)
            · rw [hO, hR]
              exact own_weaken (ownsRow_setCell_below (ownsRow_setCell_below HO2.out (by have := HMI2.out.sz; simp; omega) _) (by have := HMI2.out.sz; simp; omega) _) (by have := HMI2.out.sz; omega)
            · exact (bl.setCell (p := ⟨w.heap.size + 1, 0, none⟩) (by simp) _).setCell (p := ⟨w.heap.size + 1, 1, none⟩) (by simp) _
end Go.Proofs.YtfojblbnhapedaaGreatDoor
namespace Go.Proofs.YtfojblbnhapedaaGreatDoor
open Go.RowKit
set_option linter.unusedVariables false
set_option linter.unusedSimpArgs false

set_option maxHeartbeats 1000000 in
theorem merge_nil (A : Option Addr) (c : Nat) (x1 x2 : Int) (w : World) (hm : mayB (x1, x2) = true) :
    Calls Tryz.prog 85 #[.slice A 0 c, .agg #[.int .i64 x1, .int .i64 x2]] w fun e w' => ∃ vr, e = .returned (.tuple #[.agg #[.int .i64 x1, .int .i64 x2], .slice none 0 0, vr, .int .i64 0]) ∧
      w'.ownsRow w.heap.size 54 2 vr 1 (wcells [(x1, x2)]) ∧ Below w.heap.size w w' := by
  have HM := Lib.hid hm
  clear hm
  go_enter Tryz.func85, Tryz.ntmps85
  go_wp2_with (first | (go_at_call 26; refine (apart_nil _ _ _).mono ?_; rintro e w1 ⟨rfl, hb1⟩; have hx1 : w1.cell? ⟨w.heap.size, 0, none⟩ = some (.int .i64 x1) := (hb1.cell (p := ⟨w.heap.size, 0, none⟩) (by simp; omega)).trans (by go_simp); have hx2 : w1.cell? ⟨w.heap.size, 1, none⟩ = some (.int .i64 x2) := (hb1.cell (p := ⟨w.heap.size, 1, none⟩) (by simp; omega)).trans (by go_simp)) | fail)
  refine (wmay_any _ _ true HM.out _).mono ?_
  rintro e w2 ⟨rfl, hb2⟩
  have g0 : w.heap.size + 2 ≤ w1.heap.size := by have := hb1.size; simpa using this
  have ho1 : w1.cell? ⟨w.heap.size + 1, 0, none⟩ = some (.int .i64 0) := (hb1.cell (p := ⟨w.heap.size + 1, 0, none⟩) (by simp)).trans (by go_simp)
  have ho2 : w1.cell? ⟨w.heap.size + 1, 1, none⟩ = some (.int .i64 0) := (hb1.cell (p := ⟨w.heap.size + 1, 1, none⟩) (by simp)).trans (by go_simp)
  have hf1 : w1.frozen? ⟨w.heap.size + 1, 0, none⟩ = false := (hb1.frozen (p := ⟨w.heap.size + 1, 0, none⟩) (by simp)).trans (by go_simp)
  have hf2 : w1.frozen? ⟨w.heap.size + 1, 1, none⟩ = false := (hb1.frozen (p := ⟨w.heap.size + 1, 1, none⟩) (by simp)).trans (by go_simp)
  have hmi : MI w w2 (x1, x2) (0, 0) := ⟨(hb2.cell (p := ⟨w.heap.size, 0, none⟩) (by simp; omega)).trans hx1, (hb2.cell (p := ⟨w.heap.size, 1, none⟩) (by simp; omega)).trans hx2,
    (hb2.cell (p := ⟨w.heap.size + 1, 0, none⟩) (by simp; omega)).trans ho1, (hb2.cell (p := ⟨w.heap.size + 1, 1, none⟩) (by simp; omega)).trans ho2,
    (hb2.frozen (p := ⟨w.heap.size + 1, 0, none⟩) (by simp; omega)).trans hf1, (hb2.frozen (p := ⟨w.heap.size + 1, 1, none⟩) (by simp; omega)).trans hf2, bl_then (bl_then (bl_alloc (bl_alloc (Below.refl _ _) _) _) hb1) hb2, Nat.le_trans g0 hb2.size⟩
  clear hb1 hb2 hx1 hx2 ho1 ho2 hf1 hf2 g0
  have hmi2 := hmi.set x1 x2
  obtain ⟨x1', x2', o1, o2, f1, f2, bl, sz⟩ := id hmi
  dsimp only at x1' x2' o1 o2
  have HMI := Lib.hid hmi2
  clear hmi hmi2
  go_wp2_with (fail)
  refine absW (G := Code.wp _ _ _ _) (fun W => MI w W (x1, x2) (x1, x2)) HMI.out ?_
  intro w3 hm3
  obtain ⟨y1, y2, y3, y4, y5, y6, y7, y8⟩ := id hm3
  dsimp only at y1 y2 y3 y4
  clear x1' x2' o1 o2 f1 f2 bl sz HMI
  refine wp_loop_rounds 1 ?_
  rw [rounds_succ]
  go_wp2_with (fail)
  refine wp_loop_rounds 1 ?_
  rw [rounds_succ]
  go_wp2_with (at_builtin; refine wpList_append_w _ rfl _ _ rfl (w.heap.size + 2) _ _ _ rfl (World.ownsRow_nil _ _ _ _) w3.heap.size x1 x2 rfl (by go_simp) (by go_simp) (by omega) (by simp; omega) ?_)
  intro v' w4 hown hgrow
  have hb4 : Below (w.heap.size + 2) w3 w4 := ((Below.refl _ _).alloc y8 _).grown hgrow (by simp; omega) (fun g hg => by simp [Value.ownBlock] at hg)
  have hm4 := hm3.keep hb4
  obtain ⟨z1, z2, z3, z4, z5, z6, z7, z8⟩ := hm4
  dsimp only at z1 z2 z3 z4
  go_wp2
  refine bodyPost_ret (v := .tuple #[.agg #[.int .i64 x1, .int .i64 x2], .slice none 0 0, v', .int .i64 0]) (by simp only [results, Tryz.results85]; go_simp) rfl ?_
  exact ⟨v', rfl, own_weaken (ownsRow_setCell_below (ownsRow_setCell_below hown (by simp) _) (by simp) _) (by omega), (z7.setCell (p := ⟨w.heap.size + 1, 0, none⟩) (by simp) _).setCell (p := ⟨w.heap.size + 1, 1, none⟩) (by simp) _⟩

set_option maxHeartbeats 1000000 in
theorem merge_no (A : Option Addr) (c : Nat) (l : List (Int × Int)) (x1 x2 : Int) (w : World) (hr : RdW w w.heap.size A l) (hc : l.length ≤ c) (h : apartFrom l 0 = false ∨ (apartFrom l 0 = true ∧ mayB (x1, x2) = false)) :
    Calls Tryz.prog 85 #[.slice A l.length c, .agg #[.int .i64 x1, .int .i64 x2]] w fun e w' => e = .returned (.tuple #[.agg #[.int .i64 0, .int .i64 0], .slice none 0 0, .slice none 0 0, .int .i64 2]) ∧ Below w.heap.size w w' := by
  have HR := Lib.hid hr
  clear hr
  rcases h with h | ⟨h, h2⟩
  · have HAP := Lib.hid h
    clear h
    go_enter Tryz.func85, Tryz.ntmps85
    go_wp2_with (fail)
    refine (apart_any _ _ l _ ?_ hc false HAP.out).mono ?_
    · exact (HR.out.below (bl_alloc (bl_alloc (Below.refl _ _) _) _)).more (by simp; omega)
    rintro e w1 ⟨rfl, hb1⟩
    have ho1 : w1.cell? ⟨w.heap.size + 1, 0, none⟩ = some (.int .i64 0) := (hb1.cell (p := ⟨w.heap.size + 1, 0, none⟩) (by simp)).trans (by go_simp)
    have ho2 : w1.cell? ⟨w.heap.size + 1, 1, none⟩ = some (.int .i64 0) := (hb1.cell (p := ⟨w.heap.size + 1, 1, none⟩) (by simp)).trans (by go_simp)
    have hf1 : w1.frozen? ⟨w.heap.size + 1, 0, none⟩ = false := (hb1.frozen (p := ⟨w.heap.size + 1, 0, none⟩) (by simp)).trans (by go_simp)
    have hf2 : w1.frozen? ⟨w.heap.size + 1, 1, none⟩ = false := (hb1.frozen (p := ⟨w.heap.size + 1, 1, none⟩) (by simp)).trans (by go_simp)
    have hbw := bl_then (bl_alloc (bl_alloc (Below.refl _ _) _) _) hb1
    clear hb1
    go_wp2
    refine bodyPost_ret (v := .tuple #[.agg #[.int .i64 0, .int .i64 0], .slice none 0 0, .slice none 0 0, .int .i64 2]) (by simp only [results, Tryz.results85]; go_simp) rfl ?_
    exact ⟨rfl, (hbw.setCell (p := ⟨w.heap.size + 1, 0, none⟩) (by simp) _).setCell (p := ⟨w.heap.size + 1, 1, none⟩) (by simp) _⟩
  · have HAP := Lib.hid h
    have HM := Lib.hid h2
    clear h h2
    go_enter Tryz.func85, Tryz.ntmps85
    go_wp2_with (fail)
    refine (apart_any _ _ l _ ?_ hc true HAP.out).mono ?_
    · exact (HR.out.below (bl_alloc (bl_alloc (Below.refl _ _) _) _)).more (by simp; omega)
    rintro e w1 ⟨rfl, hb1⟩
    have hx1 : w1.cell? ⟨w.heap.size, 0, none⟩ = some (.int .i64 x1) := (hb1.cell (p := ⟨w.heap.size, 0, none⟩) (by simp; omega)).trans (by go_simp)
    have hx2 : w1.cell? ⟨w.heap.size, 1, none⟩ = some (.int .i64 x2) := (hb1.cell (p := ⟨w.heap.size, 1, none⟩) (by simp; omega)).trans (by go_simp)
    have ho1 : w1.cell? ⟨w.heap.size + 1, 0, none⟩ = some (.int .i64 0) := (hb1.cell (p := ⟨w.heap.size + 1, 0, none⟩) (by simp)).trans (by go_simp)
    have ho2 : w1.cell? ⟨w.heap.size + 1, 1, none⟩ = some (.int .i64 0) := (hb1.cell (p := ⟨w.heap.size + 1, 1, none⟩) (by simp)).trans (by go_simp)
    have hf1 : w1.frozen? ⟨w.heap.size + 1, 0, none⟩ = false := (hb1.frozen (p := ⟨w.heap.size + 1, 0, none⟩) (by simp)).trans (by go_simp)
    have hf2 : w1.frozen? ⟨w.heap.size + 1, 1, none⟩ = false := (hb1.frozen (p := ⟨w.heap.size + 1, 1, none⟩) (by simp)).trans (by go_simp)
    have hbw := bl_then (bl_alloc (bl_alloc (Below.refl _ _) _) _) hb1
    have hsz1 : w.heap.size + 2 ≤ w1.heap.size := by have := hb1.size; simpa using this
    clear hb1
    go_wp2_with (fail)
    refine (wmay_any _ _ false HM.out _).mono ?_
    rintro e w2 ⟨rfl, hb2⟩
    have ho1 := (hb2.cell (p := ⟨w.heap.size + 1, 0, none⟩) (by simp; omega)).trans ho1
    have ho2 := (hb2.cell (p := ⟨w.heap.size + 1, 1, none⟩) (by simp; omega)).trans ho2
    have hf1 := (hb2.frozen (p := ⟨w.heap.size + 1, 0, none⟩) (by simp; omega)).trans hf1
    have hf2 := (hb2.frozen (p := ⟨w.heap.size + 1, 1, none⟩) (by simp; omega)).trans hf2
    have hbw := bl_then hbw hb2
    clear hb2 hsz1
    go_wp2
    refine bodyPost_ret (v := .tuple #[.agg #[.int .i64 0, .int .i64 0], .slice none 0 0, .slice none 0 0, .int .i64 2]) (by simp only [results, Tryz.results85]; go_simp) rfl ?_
    exact ⟨rfl, (hbw.setCell (p := ⟨w.heap.size + 1, 0, none⟩) (by simp) _).setCell (p := ⟨w.heap.size + 1, 1, none⟩) (by simp) _⟩

/-- What Merge answers. -/
def mergeV (l : List (Int × Int)) (x : Int × Int) : (Int × Int) × List (Int × Int) × List (Int × Int) × Int :=
  if apartFrom l 0 && mayB x then (oneF x l, goneF x l, restL (oneF x l) l, 0) else ((0, 0), [], [], 2)
theorem merge_any (A : Option Addr) (c : Nat) (l : List (Int × Int)) (x1 x2 : Int) (w : World) (hr : RdW w w.heap.size A l) (hc : l.length ≤ c) (hn : l.length ≤ 1000000)
    (o : Int × Int) (G R : List (Int × Int)) (er : Int) (hq : mergeV l (x1, x2) = (o, G, R, er)) :
    Calls Tryz.prog 85 #[.slice A l.length c, .agg #[.int .i64 x1, .int .i64 x2]] w fun e w' => ∃ vg vr, e = .returned (.tuple #[.agg #[.int .i64 o.1, .int .i64 o.2], vg, vr, .int .i64 er]) ∧
      w'.ownsRow w.heap.size 54 2 vg G.length (wcells G) ∧ w'.ownsRow w.heap.size 54 2 vr R.length (wcells R) ∧ Below w.heap.size w w' := by
  unfold mergeV at hq
  cases ha : apartFrom l 0
  · rw [ha] at hq
    simp only [Bool.false_and, Bool.false_eq_true, if_false, Prod.mk.injEq] at hq
    obtain ⟨rfl, rfl, rfl, rfl⟩ := hq
    exact (merge_no A c l x1 x2 w hr hc (.inl ha)).mono fun e w' ⟨he, hb⟩ => ⟨_, _, he, World.ownsRow_nil _ _ _ _, World.ownsRow_nil _ _ _ _, hb⟩
  cases hm : mayB (x1, x2)
  · rw [ha, hm] at hq
    simp only [Bool.and_false, Bool.false_eq_true, if_false, Prod.mk.injEq] at hq
    obtain ⟨rfl, rfl, rfl, rfl⟩ := hq
    exact (merge_no A c l x1 x2 w hr hc (.inr ⟨ha, hm⟩)).mono fun e w' ⟨he, hb⟩ => ⟨_, _, he, World.ownsRow_nil _ _ _ _, World.ownsRow_nil _ _ _ _, hb⟩
  rw [ha, hm] at hq
  simp only [Bool.and_self, if_true, Prod.mk.injEq] at hq
  obtain ⟨rfl, rfl, rfl, rfl⟩ := hq
  rcases hr.cases with rfl | ⟨b, off, rfl, hb, hpos, hcell⟩
  · refine (merge_nil A c x1 x2 w hm).mono fun e w' ⟨vr, he, ho, hb⟩ => ⟨_, vr, he, World.ownsRow_nil _ _ _ _, ?_, hb⟩
    exact ho
  · exact merge_yes b off c l x1 x2 w hr hb hc hn ha hm hcell
end Go.Proofs.YtfojblbnhapedaaGreatDoor
