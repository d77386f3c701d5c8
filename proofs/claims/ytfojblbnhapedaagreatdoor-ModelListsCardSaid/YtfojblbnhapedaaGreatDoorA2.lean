/- The contract of window.Assign, for every input. Conditions: as each theorem states them. -/
import Derived.Test.YtfojblbnhapedaaGreatDoorProg
import Derived.WalkKit
import Derived.WalkLawsBesides
import Derived.WalkSpells
import Derived.Deep.QuietTactic
import Derived.BigQuiet
import Derived.Lib.Hide
import Derived.Deep.DeepFit
import Derived.Deep.DeepMust
import Derived.Laws.EntriesVeiled
import Derived.StillTailTactics
import Derived.Deep.RegionHeld3
import Derived.Deep.RegionWith
namespace Go.Proofs.YtfojblbnhapedaaGreatDoor
open Go.RowKit
set_option linter.unusedVariables false
set_option linter.unusedSimpArgs false

theorem bl_alloc {w W : World} (h : Below w.heap.size w W) (o : Obj) : Below w.heap.size w (W.alloc o) := h.alloc h.size o
theorem bl_then {w W W' : World} (h : Below w.heap.size w W) (k : Below W.heap.size W W') : Below w.heap.size w W' := h.trans (k.mono h.size)
theorem bl_drewN {B : Nat} {a w : World} (h : Below B a w) (n : Nat) : Below B a (w.drewN n) := ⟨h.os, h.tape, h.output, h.size, h.block⟩
theorem ret_int {k : IntKind} {a b : Int} (h : a = b) : Ending.returned (.int k a) = .returned (.int k b) := by rw [h]
theorem ret_bool {a b : Bool} (h : a = b) : Ending.returned (.bool a) = .returned (.bool b) := by rw [h]

def spanB (n : Int) : Bool := decide (1 ≤ n) && decide (n ≤ 1099511627776)
theorem span_any (n : Int) (w : World) :
    Calls Tryz.prog 135 #[.int .i64 n] w fun e w' => e = .returned (.bool (spanB n)) ∧ w = w' := by
  unfold spanB
  go_enter Tryz.func135, Tryz.ntmps135
  go_wp2
  all_goals
    go_ret
    exact ⟨ret_bool (by rw [Bool.eq_iff_iff]; simp; try omega), rfl⟩

theorem spanB_wrap8 {L : Int} (h : spanB L = true) : wrap64 (8 * L) = 8 * L := by
  simp [spanB] at h
  unfold wrap64
  omega

theorem kinds_any (w : World) :
    Calls Tryz.prog 104 #[] w fun e w' => e = .returned (.agg #[.nilFunc, .nilFunc, .func (.func 134) #[] #[], .func (.func 136) #[] #[.pointer (some ⟨w.heap.size + 1, 0, none⟩)],
      .func (.func 137) #[] #[], .func (.func 138) #[] #[.pointer (some ⟨w.heap.size + 1, 0, none⟩)], .func (.func 134) #[] #[], .func (.func 139) #[] #[]]) ∧
      (w.alloc (.cells #[.nilFunc, .nilFunc, .func (.func 134) #[] #[], .func (.func 136) #[] #[.pointer (some ⟨w.heap.size + 1, 0, none⟩)],
      .func (.func 137) #[] #[], .func (.func 138) #[] #[.pointer (some ⟨w.heap.size + 1, 0, none⟩)], .func (.func 134) #[] #[], .func (.func 139) #[] #[]] 175)).alloc (.cells #[.func (.func 133) #[] #[]] 170) = w' := by
  go_enter Tryz.func104, Tryz.ntmps104
  go_wp2
  refine bodyPost_ret (v := .agg #[.nilFunc, .nilFunc, .func (.func 134) #[] #[], .func (.func 136) #[] #[.pointer (some ⟨w.heap.size + 1, 0, none⟩)],
      .func (.func 137) #[] #[], .func (.func 138) #[] #[.pointer (some ⟨w.heap.size + 1, 0, none⟩)], .func (.func 134) #[] #[], .func (.func 139) #[] #[]]) (by simp [results, Tryz.results104, go_sem]) rfl ⟨rfl, rfl⟩

def plainB (S L : Int) : Bool := spanB S && decide (L = 0)
def slidB (S L : Int) : Bool := spanB S && spanB L && decide (S ≤ 8 * L)

theorem plain_any (K S L : Int) (b : Bool) (hb : plainB S L = b) (w : World) :
    Calls Tryz.prog 134 #[.agg #[.int .i64 K, .int .i64 S, .int .i64 L]] w fun e w' => e = .returned (.bool b) ∧ Below w.heap.size w w' := by
  subst hb
  unfold plainB
  go_enter Tryz.func134, Tryz.ntmps134
  go_wp2_with (go_at_call 135; refine (span_any _ _).mono ?_; rintro e w' ⟨rfl, rfl⟩)
  all_goals
    go_ret
    exact ⟨ret_bool (by rw [Bool.eq_iff_iff]; simp [*]), (Below.refl _ _).alloc (Nat.le_refl _) _⟩

theorem slid_any (K S L : Int) (b : Bool) (hb : slidB S L = b) (w : World) :
    Calls Tryz.prog 137 #[.agg #[.int .i64 K, .int .i64 S, .int .i64 L]] w fun e w' => e = .returned (.bool b) ∧ Below w.heap.size w w' := by
  subst hb
  unfold slidB
  go_enter Tryz.func137, Tryz.ntmps137
  go_wp2_with (go_at_call 135; refine (span_any _ _).mono ?_; rintro e w' ⟨rfl, rfl⟩)
  all_goals
    go_ret
    exact ⟨ret_bool (by rw [Bool.eq_iff_iff]; simp [*, spanB_wrap8]), (Below.refl _ _).alloc (Nat.le_refl _) _⟩

set_option maxHeartbeats 1000000 in
theorem check_1 (S L : Int) (w : World) :
    Calls Tryz.prog 82 #[.agg #[.int .i64 1, .int .i64 S, .int .i64 L]] w fun e w' => e = .returned (.int .i64 (bif plainB S L then 0 else 2)) ∧ Below w.heap.size w w' := by
  cases hq : plainB S L
  all_goals
    have HQ := Lib.hid hq
    clear hq
    go_enter Tryz.func82, Tryz.ntmps82
    go_wp2_with (go_at_call 104; refine (kinds_any _).mono ?_; rintro e w' ⟨rfl, rfl⟩)
    go_region_with (go_at_call 134; refine (plain_any _ _ _ _ HQ.out _).mono ?_; rintro e w' ⟨rfl, hb⟩)
    all_goals
      go_wp2
      go_ret
      refine ⟨rfl, ?_⟩
      repeat first | exact Below.refl _ _ | refine Below.drew ?_ | refine bl_alloc ?_ _ | refine bl_then ?_ (by assumption)

set_option maxHeartbeats 1000000 in
theorem check_2 (S L : Int) (w : World) :
    Calls Tryz.prog 82 #[.agg #[.int .i64 2, .int .i64 S, .int .i64 L]] w fun e w' => e = .returned (.int .i64 (bif slidB S L then 0 else 2)) ∧ Below w.heap.size w w' := by
  cases hq : slidB S L
  all_goals
    have HQ := Lib.hid hq
    clear hq
    go_enter Tryz.func82, Tryz.ntmps82
    go_wp2_with (go_at_call 104; refine (kinds_any _).mono ?_; rintro e w' ⟨rfl, rfl⟩)
    go_region_with (go_at_call 137; refine (slid_any _ _ _ _ HQ.out _).mono ?_; rintro e w' ⟨rfl, hb⟩)
    all_goals
      go_wp2
      go_ret
      refine ⟨rfl, ?_⟩
      repeat first | exact Below.refl _ _ | refine Below.drew ?_ | refine bl_alloc ?_ _ | refine bl_then ?_ (by assumption)

set_option maxHeartbeats 1000000 in
theorem check_3 (S L : Int) (w : World) :
    Calls Tryz.prog 82 #[.agg #[.int .i64 3, .int .i64 S, .int .i64 L]] w fun e w' => e = .returned (.int .i64 (bif plainB S L then 0 else 2)) ∧ Below w.heap.size w w' := by
  cases hq : plainB S L
  all_goals
    have HQ := Lib.hid hq
    clear hq
    go_enter Tryz.func82, Tryz.ntmps82
    go_wp2_with (go_at_call 104; refine (kinds_any _).mono ?_; rintro e w' ⟨rfl, rfl⟩)
    go_region_with (go_at_call 134; refine (plain_any _ _ _ _ HQ.out _).mono ?_; rintro e w' ⟨rfl, hb⟩)
    all_goals
      go_wp2
      go_ret
      refine ⟨rfl, ?_⟩
      repeat first | exact Below.refl _ _ | refine Below.drew ?_ | refine bl_alloc ?_ _ | refine bl_then ?_ (by assumption)

theorem check_low (K S L : Int) (h : K < 1) (w : World) :
    Calls Tryz.prog 82 #[.agg #[.int .i64 K, .int .i64 S, .int .i64 L]] w fun e w' => e = .returned (.int .i64 2) ∧ Below w.heap.size w w' := by
  have h1 : decide (K < 1) = true := by simpa using h
  go_enter Tryz.func82, Tryz.ntmps82
  go_wp2_with (go_at_call 104; refine (kinds_any _).mono ?_; rintro e w' ⟨rfl, rfl⟩)
  go_quiet (fail)
  go_wp2
  go_ret
  refine ⟨rfl, ?_⟩
  repeat first | exact Below.refl _ _ | refine Below.drew ?_ | refine bl_drewN ?_ _ | refine bl_alloc ?_ _ | refine bl_then ?_ (by assumption)
theorem check_high (K S L : Int) (h : 4 ≤ K) (w : World) :
    Calls Tryz.prog 82 #[.agg #[.int .i64 K, .int .i64 S, .int .i64 L]] w fun e w' => e = .returned (.int .i64 2) ∧ Below w.heap.size w w' := by
  have h1 : decide (K < 1) = false := by simp; omega
  have h2 : decide (4 ≤ K) = true := by simpa using h
  go_enter Tryz.func82, Tryz.ntmps82
  go_wp2_with (go_at_call 104; refine (kinds_any _).mono ?_; rintro e w' ⟨rfl, rfl⟩)
  go_quiet (fail)
  go_wp2
  go_ret
  refine ⟨rfl, ?_⟩
  repeat first | exact Below.refl _ _ | refine Below.drew ?_ | refine bl_drewN ?_ _ | refine bl_alloc ?_ _ | refine bl_then ?_ (by assumption)
end Go.Proofs.YtfojblbnhapedaaGreatDoor
namespace Go.Proofs.YtfojblbnhapedaaGreatDoor
open Go.RowKit
set_option linter.unusedVariables false
set_option linter.unusedSimpArgs false

def flr (t b : Int) : Int := t / b * b
theorem flr_le (t b : Int) (hb : 1 ≤ b) : flr t b ≤ t ∧ t < flr t b + b := by
  unfold flr
  have h1 := Int.mul_ediv_add_emod t b
  have h2 := Int.emod_nonneg t (show b ≠ 0 by omega)
  have h3 := Int.emod_lt_of_pos t (show 0 < b by omega)
  rw [Int.mul_comm b (t / b)] at h1
  constructor <;> omega
theorem tdiv_floor (t b : Int) (hb : 1 ≤ b) : t / b = if t.tmod b < 0 then t.tdiv b - 1 else t.tdiv b := by
  have h := Int.tmod_eq_emod (a := t) (b := b)
  have h' := Int.tdiv_eq_ediv (a := t) (b := b)
  have e2 := Int.emod_nonneg t (show b ≠ 0 by omega)
  have e3 := Int.emod_lt_of_pos t (show 0 < b by omega)
  rw [Int.sign_eq_one_of_pos (by omega)] at h'
  by_cases hc : 0 ≤ t ∨ b ∣ t
  · rw [if_pos hc] at h h'
    rw [if_neg (by omega)]
    omega
  · rw [if_neg hc] at h h'
    rw [if_pos (by omega)]
    omega
set_option maxHeartbeats 400000 in
theorem floor_any (t b : Int) (w : World) (h1 : 1 ≤ b) (h2 : b ≤ 1099511627776) (h3 : -2251799813685248 ≤ t) (h4 : t ≤ 2251799813685248) :
    Calls Tryz.prog 133 #[.int .i64 t, .int .i64 b] w fun e w' => e = .returned (.int .i64 (flr t b)) ∧ w = w' := by
  go_enter Tryz.func133, Tryz.ntmps133
  go_wp2
  all_goals
    go_ret
    refine ⟨ret_int ?_, rfl⟩
  · have hd := tdiv_floor t b h1
    have hf := flr_le t b h1
    rw [if_pos (by assumption)] at hd
    unfold flr at *
    rw [hd] at *
    have hn := Int.natAbs_tdiv_le_natAbs t b
    rw [show wrap64 (t.tdiv b - 1) = t.tdiv b - 1 by unfold wrap64; omega]
    unfold wrap64
    omega
  · have hd := tdiv_floor t b h1
    have hf := flr_le t b h1
    rw [if_neg (by omega)] at hd
    unfold flr at *
    rw [hd] at *
    unfold wrap64
    omega

theorem own_made1 {w W : World} (h : w.heap.size ≤ W.heap.size) (a b : Int) {g : Nat} (hg : g = W.heap.size) : (W.alloc (.cells #[.int .i64 a, .int .i64 b] 54)).ownsRow w.heap.size 54 2 (.slice (some ⟨g, 0, none⟩) 1 1) 1 [.int .i64 a, .int .i64 b] := by
  subst hg
  exact ⟨rfl, .inr ⟨W.heap.size, 1, _, rfl, h, heap_alloc_new W _, Nat.le_refl _, by decide, rfl, rfl⟩⟩

theorem own_weaken {w : World} {base base' e size n : Nat} {v : Value} {xs : List Value} (h : w.ownsRow base e size v n xs) (hb : base' ≤ base) : w.ownsRow base' e size v n xs := by
  obtain ⟨h1, h2⟩ := h
  refine ⟨h1, ?_⟩
  rcases h2 with h2 | ⟨g, cap, cur, hv, hg, hr⟩
  · exact .inl h2
  · exact .inr ⟨g, cap, cur, hv, by omega, hr⟩
theorem cells_new2 (w : World) (x y : Value) (t : TypeId) : ∀ j u, [x, y][j]? = some u → (w.alloc (.cells #[x, y] t)).cell? ((⟨w.heap.size, 0, none⟩ : Addr).add j) = some u := by
  intro j u hu
  rw [Addr.add_lit, World.cell?_alloc_new]
  simpa using hu

def wcells (l : List (Int × Int)) : List Value := l.flatMap fun p => [.int .i64 p.1, .int .i64 p.2]

theorem tumb_any (r : Nat) (K S L t : Int) (w : World) (hc : w.cell? ⟨r, 0, none⟩ = some (.func (.func 133) #[] #[])) (h1 : 1 ≤ S) (h2 : S ≤ 1099511627776) (h3 : -1125899906842624 ≤ t) (h4 : t ≤ 1125899906842624) :
    Calls Tryz.prog 136 #[.agg #[.int .i64 K, .int .i64 S, .int .i64 L], .int .i64 t, .pointer (some ⟨r, 0, none⟩)] w fun e w' => ∃ v, e = .returned v ∧ w'.ownsRow w.heap.size 54 2 v 1 (wcells [(flr t S, flr t S + S)]) ∧ Below w.heap.size w w' := by
  have hf := flr_le t S h1
  have hca : ∀ o, (w.alloc o).cell? ⟨r, 0, none⟩ = some (.func (.func 133) #[] #[]) := fun o => (World.cell?_alloc_lt w o _ (World.block_lt_of_cell? w _ hc)).trans hc
  go_enter Tryz.func136, Tryz.ntmps136
  go_wp2_with (go_at_call 133; refine (floor_any _ _ _ h1 h2 (by omega) (by omega)).mono ?_; rintro e w' ⟨rfl, rfl⟩)
  go_ret
  exact ⟨_, rfl, own_made1 (by simp) _ _ (by simp), bl_alloc (bl_alloc (Below.refl _ _) _) _⟩
theorem sess_any (K S L t : Int) (w : World) (h1 : 1 ≤ S) (h2 : S ≤ 1099511627776) (h3 : -1125899906842624 ≤ t) (h4 : t ≤ 1125899906842624) :
    Calls Tryz.prog 139 #[.agg #[.int .i64 K, .int .i64 S, .int .i64 L], .int .i64 t] w fun e w' => ∃ v, e = .returned v ∧ w'.ownsRow w.heap.size 54 2 v 1 (wcells [(t, t + S)]) ∧ Below w.heap.size w w' := by
  go_enter Tryz.func139, Tryz.ntmps139
  go_wp2
  go_ret
  exact ⟨_, rfl, own_made1 (by simp) _ _ (by simp), bl_alloc (bl_alloc (Below.refl _ _) _) _⟩

def slF (t S L : Int) (k : Nat) : Int := flr (t - S) L + L + k * L
def slL (t S L : Int) (n : Nat) : List (Int × Int) := (List.range n).map fun i => (slF t S L i, slF t S L i + S)
theorem slF_zero (t S L : Int) : flr (t - S) L + L = slF t S L 0 := by simp [slF]
theorem slF_succ (t S L : Int) (k : Nat) : slF t S L (k + 1) = slF t S L k + L := by
  unfold slF
  rw [Int.natCast_add, Int.add_mul]
  omega
def slN (t S L : Int) : Nat := ((t - slF t S L 0) / L + 1).toNat
theorem slF_lt (t S L : Int) (hL : 1 ≤ L) (hS : 1 ≤ S) (k : Nat) : k < slN t S L ↔ slF t S L k ≤ t := by
  have h0 := flr_le (t - S) L hL
  have hm := Int.mul_ediv_add_emod (t - slF t S L 0) L
  have h2 := Int.emod_nonneg (t - slF t S L 0) (show L ≠ 0 by omega)
  have h3 := Int.emod_lt_of_pos (t - slF t S L 0) (show 0 < L by omega)
  have e : slF t S L k = slF t S L 0 + k * L := by simp [slF]
  unfold slN
  rw [e]
  generalize (t - slF t S L 0) / L = q at *
  generalize (t - slF t S L 0) % L = r at *
  generalize slF t S L 0 = f at *
  constructor
  · intro h
    have h' : (k : Int) ≤ q := by omega
    have := Int.mul_le_mul_of_nonneg_right h' (show 0 ≤ L by omega)
    rw [Int.mul_comm q L] at this
    omega
  · intro h
    by_cases h' : (k : Int) ≤ q
    · omega
    · have h4 : q + 1 ≤ (k : Int) := by omega
      have := Int.mul_le_mul_of_nonneg_right h4 (show 0 ≤ L by omega)
      rw [Int.add_mul, Int.mul_comm q L] at this
      omega
theorem slL_succ (t S L : Int) (k : Nat) : wcells (slL t S L (k + 1)) = wcells (slL t S L k) ++ [.int .i64 (slF t S L k), .int .i64 (slF t S L k + S)] := by
  simp [slL, wcells, List.range_succ]
theorem slN_le (t S L : Int) (hL : 1 ≤ L) (hS : 1 ≤ S) (h8 : S ≤ 8 * L) : slN t S L ≤ 8 := by
  have h := (slF_lt t S L hL hS 8)
  have h0 := flr_le (t - S) L hL
  simp [slF] at h
  omega

theorem Tryz.info54 : (Tryz.prog.info? 54).map (fun i => (i.zero, i.size, i.bytes)) = some (some (.agg #[.int .i64 0, .int .i64 0]), 2, 16) := by kernel_rfl

set_option maxHeartbeats 1000000 in
theorem slide_any (r : Nat) (K S L t : Int) (w : World) (hc : w.cell? ⟨r, 0, none⟩ = some (.func (.func 133) #[] #[])) (h1 : 1 ≤ S) (h2 : S ≤ 1099511627776) (h1' : 1 ≤ L) (h2' : L ≤ 1099511627776) (h8 : S ≤ 8 * L) (h3 : -1125899906842624 ≤ t) (h4 : t ≤ 1125899906842624) :
    Calls Tryz.prog 138 #[.agg #[.int .i64 K, .int .i64 S, .int .i64 L], .int .i64 t, .pointer (some ⟨r, 0, none⟩)] w fun e w' => ∃ v, e = .returned v ∧ w'.ownsRow w.heap.size 54 2 v (slN t S L) (wcells (slL t S L (slN t S L))) ∧ Below w.heap.size w w' := by
  have hf := flr_le (t - S) L h1'
  have hlt := slF_lt t S L h1' h1
  have hN := slN_le t S L h1' h1 h8
  have hz := slF_zero t S L
  obtain ⟨i0, hi, hz0, hz1, hz2⟩ := info_parts Tryz.info54
  have hca : ∀ o, (w.alloc o).cell? ⟨r, 0, none⟩ = some (.func (.func 133) #[] #[]) := fun o => (World.cell?_alloc_lt w o _ (World.block_lt_of_cell? w _ hc)).trans hc
  have HLT := Lib.hid hlt
  have HZ := Lib.hid hz
  clear hlt hz
  go_enter Tryz.func138, Tryz.ntmps138
  go_wp2
  go_quiet ((go_at_call 133; exact Calls.quiet_of_same ((floor_any _ _ _ h1' h2' (by omega) (by omega)).mono fun _ _ h => ⟨h.1, h.2.symm⟩)))
  go_wp2
  go_loopw [6, 7] (fun v f wr => ∃ k : Nat, k ≤ slN t S L ∧ f = .int .i64 (slF t S L k) ∧ wr.ownsRow (w.heap.size + 1) 54 2 v k (wcells (slL t S L k)) ∧ Below (w.heap.size + 1) (w.alloc (.cells #[.int .i64 K, .int .i64 S, .int .i64 L] 46)) wr) (fun _ f _ => (t + L - intOf f).toNat)
  case atStart => exact ⟨0, Nat.zero_le _, by rw [HZ.out], World.ownsRow_nil _ _ _ _, bl_drewN (Below.refl _ _) _⟩
  case round =>
    obtain ⟨k, hk, rfl, hown, hbl⟩ := hrel
    have hS1 : wr.cell? ⟨w.heap.size, 1, none⟩ = some (.int .i64 S) := (hbl.cell (p := ⟨w.heap.size, 1, none⟩) (by simp)).trans (by simp)
    have hS2 : wr.cell? ⟨w.heap.size, 2, none⟩ = some (.int .i64 L) := (hbl.cell (p := ⟨w.heap.size, 2, none⟩) (by simp)).trans (by simp)
    have hsz : w.heap.size + 1 ≤ wr.heap.size := by have := hbl.size; simpa using this
    have hfl : -1125899906842624 - 1099511627776 ≤ slF t S L k := by
      have : 0 ≤ (k : Int) * L := Int.mul_nonneg (by omega) (by omega)
      unfold slF
      omega
    have hsu := slF_succ t S L k
    have HSU := Lib.hid hsu
    have HOWN := Lib.hid hown
    clear hsu hown
    by_cases hle : slF t S L k ≤ t
    · have hkn := (HLT.out k).2 hle
      go_wp2_with (at_builtin; refine wpList_append_own _ rfl _ _ 73 rfl (w.heap.size + 1) 54 i0 (.agg #[.int .i64 0, .int .i64 0]) 2 16 Tryz.underlying73 hi hz0 hz1 hz2 rfl (by decide) _ _ _ rfl (HOWN.out.alloc _) ⟨wr.heap.size, 0, none⟩ 1 1 [.int .i64 (slF t S L k), .int .i64 (slF t S L k + S)] rfl rfl ?c1 ?c2 ?c3 ?c4 ?c5 ?_)
      case c1 => exact cells_new2 _ _ _ _
      case c2 => simp [Value.oneCell']
      case c3 => simp [maxLen]; omega
      case c4 => omega
      case c5 => simp; omega
      intro v' w1 hown' hgrow _
      have hb1 : Below (w.heap.size + 1) (w.alloc (.cells #[.int .i64 K, .int .i64 S, .int .i64 L] 46)) w1 := (hbl.alloc hsz _).grown hgrow (by simp; omega) (fun g hg => by
        have := HOWN.out.lt g hg
        omega)
      have hS3 : w1.cell? ⟨w.heap.size, 2, none⟩ = some (.int .i64 L) := (hb1.cell (p := ⟨w.heap.size, 2, none⟩) (by simp)).trans (by simp)
      have HO := Lib.hid hown'
      clear hown'
      go_wp2
      go_roundw
      case rel => exact ⟨k + 1, by omega, by rw [HSU.out], by rw [slL_succ]; exact HO.out, hb1⟩
      case measure => simp [intOf]; omega
    · go_wp2
      have hkn : k = slN t S L := by
        have := HLT.out k
        have h' : ¬ k < slN t S L := fun h => by have := this.1 h; omega
        omega
      subst hkn
      go_ret
      exact ⟨_, rfl, own_weaken HOWN.out (by omega), ((Below.refl _ _).alloc (Nat.le_refl _) _).trans (hbl.mono (by omega))⟩
end Go.Proofs.YtfojblbnhapedaaGreatDoor
namespace Go.Proofs.YtfojblbnhapedaaGreatDoor
open Go.RowKit
set_option linter.unusedVariables false
set_option linter.unusedSimpArgs false

def chkV (K S L : Int) : Int := if K = 1 ∨ K = 3 then (bif plainB S L then 0 else 2) else if K = 2 then (bif slidB S L then 0 else 2) else 2
theorem check_any (K S L : Int) (w : World) :
    Calls Tryz.prog 82 #[.agg #[.int .i64 K, .int .i64 S, .int .i64 L]] w fun e w' => e = .returned (.int .i64 (chkV K S L)) ∧ Below w.heap.size w w' := by
  unfold chkV
  by_cases h1 : K = 1
  · subst h1; simpa using check_1 S L w
  by_cases h2 : K = 2
  · subst h2; simpa using check_2 S L w
  by_cases h3 : K = 3
  · subst h3; simpa using check_3 S L w
  rw [if_neg (by omega), if_neg h2]
  by_cases h4 : K < 1
  · exact check_low K S L h4 w
  · exact check_high K S L (by omega) w

theorem chkV_or (K S L : Int) : chkV K S L = 0 ∨ chkV K S L = 2 := by
  unfold chkV
  cases plainB S L <;> cases slidB S L <;> simp only [cond_true, cond_false] <;> (repeat' split) <;> omega

theorem check_is (K S L c : Int) (w : World) (h : chkV K S L = c) :
    Calls Tryz.prog 82 #[.agg #[.int .i64 K, .int .i64 S, .int .i64 L]] w fun e w' => e = .returned (.int .i64 c) ∧ Below w.heap.size w w' := h ▸ check_any K S L w

def asgNo (K S L t : Int) : Prop := chkV K S L = 2 ∨ (chkV K S L = 0 ∧ (t < -1125899906842624 ∨ (¬ t < -1125899906842624 ∧ 1125899906842624 < t)))

theorem assign_no (K S L t : Int) (w : World) (h : asgNo K S L t) :
    Calls Tryz.prog 84 #[.agg #[.int .i64 K, .int .i64 S, .int .i64 L], .int .i64 t] w fun e w' => e = .returned (.tuple #[.slice none 0 0, .int .i64 2]) ∧ Below w.heap.size w w' := by
  rcases h with hq | ⟨hq, h | ⟨h, h2⟩⟩
  all_goals
    have HQ := Lib.hid hq
    clear hq
    go_enter Tryz.func84, Tryz.ntmps84
    go_wp2_with (go_at_call 82; refine (check_is _ _ _ _ _ HQ.out).mono ?_; rintro e w' ⟨rfl, hb⟩)
    go_ret2
    refine ⟨rfl, ?_⟩
    repeat first | exact Below.refl _ _ | refine Below.drew ?_ | refine bl_drewN ?_ _ | refine bl_alloc ?_ _ | refine bl_then ?_ (by assumption)

theorem own_back {w W w' : World} (hb : Below w.heap.size w W) {e size n : Nat} {v : Value} {xs : List Value} (h : w'.ownsRow W.heap.size e size v n xs) : w'.ownsRow w.heap.size e size v n xs := own_weaken h hb.size

def winsL (K S L t : Int) : List (Int × Int) := if K = 1 then [(flr t S, flr t S + S)] else if K = 2 then slL t S L (slN t S L) else [(t, t + S)]

theorem plainB_bd {S L : Int} (h : plainB S L = true) : 1 ≤ S ∧ S ≤ 1099511627776 ∧ L = 0 := by
  simp [plainB, spanB] at h
  omega
theorem slidB_bd {S L : Int} (h : slidB S L = true) : 1 ≤ S ∧ S ≤ 1099511627776 ∧ 1 ≤ L ∧ L ≤ 1099511627776 ∧ S ≤ 8 * L := by
  simp [slidB, spanB] at h
  omega

theorem fin_own {w W w2 : World} {e s n : Nat} {v : Value} {xs : List Value} (h : Below w.heap.size w W) (hb2 : Below W.heap.size W w2) (hown : w2.ownsRow W.heap.size e s v n xs) : w2.ownsRow w.heap.size e s v n xs ∧ Below w.heap.size w w2 :=
  ⟨own_weaken hown h.size, bl_then h hb2⟩
theorem index_1 (r : Nat) (W : World) : (Instr.index 175 (.agg #[.nilFunc, .nilFunc, .func (.func 134) #[] #[], .func (.func 136) #[] #[.pointer (some ⟨r, 0, none⟩)], .func (.func 137) #[] #[], .func (.func 138) #[] #[.pointer (some ⟨r, 0, none⟩)], .func (.func 134) #[] #[], .func (.func 139) #[] #[]]) (.int .i64 1)).run Tryz.prog W = .ok (.agg #[.func (.func 134) #[] #[], .func (.func 136) #[] #[.pointer (some ⟨r, 0, none⟩)]]) W := by kernel_rfl
theorem index_2 (r : Nat) (W : World) : (Instr.index 175 (.agg #[.nilFunc, .nilFunc, .func (.func 134) #[] #[], .func (.func 136) #[] #[.pointer (some ⟨r, 0, none⟩)], .func (.func 137) #[] #[], .func (.func 138) #[] #[.pointer (some ⟨r, 0, none⟩)], .func (.func 134) #[] #[], .func (.func 139) #[] #[]]) (.int .i64 2)).run Tryz.prog W = .ok (.agg #[.func (.func 137) #[] #[], .func (.func 138) #[] #[.pointer (some ⟨r, 0, none⟩)]]) W := by kernel_rfl
theorem index_3 (r : Nat) (W : World) : (Instr.index 175 (.agg #[.nilFunc, .nilFunc, .func (.func 134) #[] #[], .func (.func 136) #[] #[.pointer (some ⟨r, 0, none⟩)], .func (.func 137) #[] #[], .func (.func 138) #[] #[.pointer (some ⟨r, 0, none⟩)], .func (.func 134) #[] #[], .func (.func 139) #[] #[]]) (.int .i64 3)).run Tryz.prog W = .ok (.agg #[.func (.func 134) #[] #[], .func (.func 139) #[] #[]]) W := by kernel_rfl
theorem field_1 (r : Nat) (W : World) : (Instr.field 174 (.agg #[.func (.func 134) #[] #[], .func (.func 136) #[] #[.pointer (some ⟨r, 0, none⟩)]]) 1).run Tryz.prog W = .ok (.func (.func 136) #[] #[.pointer (some ⟨r, 0, none⟩)]) W := by kernel_rfl
theorem field_2 (r : Nat) (W : World) : (Instr.field 174 (.agg #[.func (.func 137) #[] #[], .func (.func 138) #[] #[.pointer (some ⟨r, 0, none⟩)]]) 1).run Tryz.prog W = .ok (.func (.func 138) #[] #[.pointer (some ⟨r, 0, none⟩)]) W := by kernel_rfl
theorem field_3 (W : World) : (Instr.field 174 (.agg #[.func (.func 134) #[] #[], .func (.func 139) #[] #[]]) 1).run Tryz.prog W = .ok (.func (.func 139) #[] #[]) W := by kernel_rfl

set_option maxHeartbeats 1000000 in
theorem assign_1 (S L t : Int) (w : World) (hq : chkV 1 S L = 0) (h1 : ¬ t < -1125899906842624) (h2 : ¬ 1125899906842624 < t) :
    Calls Tryz.prog 84 #[.agg #[.int .i64 1, .int .i64 S, .int .i64 L], .int .i64 t] w fun e w' => ∃ v, e = .returned (.tuple #[v, .int .i64 0]) ∧ w'.ownsRow w.heap.size 54 2 v 1 (wcells ([(flr t S, flr t S + S)])) ∧ Below w.heap.size w w' := by
  have hS : plainB S L = true := by
    cases hc : plainB S L
    · rw [chkV] at hq
      simp [hc] at hq
    · rfl
  have hS := plainB_bd hS
  obtain ⟨g1, g2⟩ : 1 ≤ S ∧ S ≤ 1099511627776 := ⟨hS.1, hS.2.1⟩
  clear hS
  have HQ := Lib.hid hq
  clear hq
  have hix := index_1
  have hfx := field_1
  go_enter Tryz.func84, Tryz.ntmps84
  go_wp2_with (go_at_call 82; refine (check_is _ _ _ _ _ HQ.out).mono ?_; rintro e w1 ⟨rfl, hb1⟩)
  have hc1 : w1.cell? ⟨w.heap.size, 0, none⟩ = some (.int .i64 1) := (hb1.cell (p := ⟨w.heap.size, 0, none⟩) (by simp)).trans (by simp)
  have hc2 : w1.cell? ⟨w.heap.size, 1, none⟩ = some (.int .i64 S) := (hb1.cell (p := ⟨w.heap.size, 1, none⟩) (by simp)).trans (by simp)
  have hc3 : w1.cell? ⟨w.heap.size, 2, none⟩ = some (.int .i64 L) := (hb1.cell (p := ⟨w.heap.size, 2, none⟩) (by simp)).trans (by simp)
  have hsz : w.heap.size < w1.heap.size := by have := hb1.size; simp at this; omega
  go_region_held3 (fun w' => w'.cell? ⟨w.heap.size, 0, none⟩ = some (.int .i64 1) ∧ w'.cell? ⟨w.heap.size, 1, none⟩ = some (.int .i64 S) ∧ w'.cell? ⟨w.heap.size, 2, none⟩ = some (.int .i64 L))
    (first | go_keep | exact ⟨(hb2.cell (p := ⟨w.heap.size, 0, none⟩) (by simp; omega)).trans (by go_simp), (hb2.cell (p := ⟨w.heap.size, 1, none⟩) (by simp; omega)).trans (by go_simp), (hb2.cell (p := ⟨w.heap.size, 2, none⟩) (by simp; omega)).trans (by go_simp)⟩)
    (first | (go_at_call 104; refine (kinds_any _).mono ?_; rintro e w' ⟨rfl, rfl⟩) | (go_at_call 136; refine (tumb_any _ _ _ _ _ _ (by go_simp) g1 g2 (by omega) (by omega)).mono ?_; rintro e w2 ⟨v, rfl, hown, hb2⟩))
  go_wp2
  go_ret2
  refine ⟨_, rfl, fin_own ?_ hb2 hown⟩
  repeat first | exact Below.refl _ _ | refine Below.drew ?_ | refine bl_drewN ?_ _ | refine bl_alloc ?_ _ | refine bl_then ?_ (by assumption)

set_option maxHeartbeats 1000000 in
theorem assign_2 (S L t : Int) (w : World) (hq : chkV 2 S L = 0) (h1 : ¬ t < -1125899906842624) (h2 : ¬ 1125899906842624 < t) :
    Calls Tryz.prog 84 #[.agg #[.int .i64 2, .int .i64 S, .int .i64 L], .int .i64 t] w fun e w' => ∃ v, e = .returned (.tuple #[v, .int .i64 0]) ∧ w'.ownsRow w.heap.size 54 2 v (slN t S L) (wcells (slL t S L (slN t S L))) ∧ Below w.heap.size w w' := by
  have hS : slidB S L = true := by
    cases hc : slidB S L
    · rw [chkV] at hq
      simp [hc] at hq
    · rfl
  have hS := slidB_bd hS
  obtain ⟨g1, g2, g3, g4, g5⟩ := hS
  have HQ := Lib.hid hq
  clear hq
  have hix := index_2
  have hfx := field_2
  go_enter Tryz.func84, Tryz.ntmps84
  go_wp2_with (go_at_call 82; refine (check_is _ _ _ _ _ HQ.out).mono ?_; rintro e w1 ⟨rfl, hb1⟩)
  have hc1 : w1.cell? ⟨w.heap.size, 0, none⟩ = some (.int .i64 2) := (hb1.cell (p := ⟨w.heap.size, 0, none⟩) (by simp)).trans (by simp)
  have hc2 : w1.cell? ⟨w.heap.size, 1, none⟩ = some (.int .i64 S) := (hb1.cell (p := ⟨w.heap.size, 1, none⟩) (by simp)).trans (by simp)
  have hc3 : w1.cell? ⟨w.heap.size, 2, none⟩ = some (.int .i64 L) := (hb1.cell (p := ⟨w.heap.size, 2, none⟩) (by simp)).trans (by simp)
  have hsz : w.heap.size < w1.heap.size := by have := hb1.size; simp at this; omega
  go_region_held3 (fun w' => w'.cell? ⟨w.heap.size, 0, none⟩ = some (.int .i64 2) ∧ w'.cell? ⟨w.heap.size, 1, none⟩ = some (.int .i64 S) ∧ w'.cell? ⟨w.heap.size, 2, none⟩ = some (.int .i64 L))
    (first | go_keep | exact ⟨(hb2.cell (p := ⟨w.heap.size, 0, none⟩) (by simp; omega)).trans (by go_simp), (hb2.cell (p := ⟨w.heap.size, 1, none⟩) (by simp; omega)).trans (by go_simp), (hb2.cell (p := ⟨w.heap.size, 2, none⟩) (by simp; omega)).trans (by go_simp)⟩)
    (first | (go_at_call 104; refine (kinds_any _).mono ?_; rintro e w' ⟨rfl, rfl⟩) | (go_at_call 138; refine (slide_any _ _ _ _ _ _ (by go_simp) g1 g2 g3 g4 g5 (by omega) (by omega)).mono ?_; rintro e w2 ⟨v, rfl, hown, hb2⟩))
  go_wp2
  go_ret2
  refine ⟨_, rfl, fin_own ?_ hb2 hown⟩
  repeat first | exact Below.refl _ _ | refine Below.drew ?_ | refine bl_drewN ?_ _ | refine bl_alloc ?_ _ | refine bl_then ?_ (by assumption)

set_option maxHeartbeats 1000000 in
theorem assign_3 (S L t : Int) (w : World) (hq : chkV 3 S L = 0) (h1 : ¬ t < -1125899906842624) (h2 : ¬ 1125899906842624 < t) :
    Calls Tryz.prog 84 #[.agg #[.int .i64 3, .int .i64 S, .int .i64 L], .int .i64 t] w fun e w' => ∃ v, e = .returned (.tuple #[v, .int .i64 0]) ∧ w'.ownsRow w.heap.size 54 2 v 1 (wcells ([(t, t + S)])) ∧ Below w.heap.size w w' := by
  have hS : plainB S L = true := by
    cases hc : plainB S L
    · rw [chkV] at hq
      simp [hc] at hq
    · rfl
  have hS := plainB_bd hS
  obtain ⟨g1, g2⟩ : 1 ≤ S ∧ S ≤ 1099511627776 := ⟨hS.1, hS.2.1⟩
  clear hS
  have HQ := Lib.hid hq
  clear hq
  have hix := index_3
  have hfx := field_3
  go_enter Tryz.func84, Tryz.ntmps84
  go_wp2_with (go_at_call 82; refine (check_is _ _ _ _ _ HQ.out).mono ?_; rintro e w1 ⟨rfl, hb1⟩)
  have hc1 : w1.cell? ⟨w.heap.size, 0, none⟩ = some (.int .i64 3) := (hb1.cell (p := ⟨w.heap.size, 0, none⟩) (by simp)).trans (by simp)
  have hc2 : w1.cell? ⟨w.heap.size, 1, none⟩ = some (.int .i64 S) := (hb1.cell (p := ⟨w.heap.size, 1, none⟩) (by simp)).trans (by simp)
  have hc3 : w1.cell? ⟨w.heap.size, 2, none⟩ = some (.int .i64 L) := (hb1.cell (p := ⟨w.heap.size, 2, none⟩) (by simp)).trans (by simp)
  have hsz : w.heap.size < w1.heap.size := by have := hb1.size; simp at this; omega
  go_region_held3 (fun w' => w'.cell? ⟨w.heap.size, 0, none⟩ = some (.int .i64 3) ∧ w'.cell? ⟨w.heap.size, 1, none⟩ = some (.int .i64 S) ∧ w'.cell? ⟨w.heap.size, 2, none⟩ = some (.int .i64 L))
    (first | go_keep | exact ⟨(hb2.cell (p := ⟨w.heap.size, 0, none⟩) (by simp; omega)).trans (by go_simp), (hb2.cell (p := ⟨w.heap.size, 1, none⟩) (by simp; omega)).trans (by go_simp), (hb2.cell (p := ⟨w.heap.size, 2, none⟩) (by simp; omega)).trans (by go_simp)⟩)
    (first | (go_at_call 104; refine (kinds_any _).mono ?_; rintro e w' ⟨rfl, rfl⟩) | (go_at_call 139; refine (sess_any _ _ _ _ _ g1 g2 (by omega) (by omega)).mono ?_; rintro e w2 ⟨v, rfl, hown, hb2⟩))
  go_wp2
  go_ret2
  refine ⟨_, rfl, fin_own ?_ hb2 hown⟩
  repeat first | exact Below.refl _ _ | refine Below.drew ?_ | refine bl_drewN ?_ _ | refine bl_alloc ?_ _ | refine bl_then ?_ (by assumption)

end Go.Proofs.YtfojblbnhapedaaGreatDoor
