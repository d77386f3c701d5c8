/- The contracts of the closures that assign windows, for bounded times and spans. Conditions: as each theorem states them. -/
import Derived.Test.YtgpmceimhfkncaaA0
namespace Go.Proofs.Ytgpmceimhfkncaa
open Go.RowKit
set_option linter.unusedVariables false
set_option linter.unusedSimpArgs false

def flr (t b : Int) : Int := t / b * b
theorem flr_le (t b : Int) (hb : 1 ≤ b) : flr t b ≤ t ∧ t < flr t b + b := by
  unfold flr
  have h1 := Int.mul_ediv_add_emod t b
  have h2 := Int.emod_nonneg t (show b ≠ 0 by omega)
  have h3 := Int.emod_lt_of_pos t (show 0 < b by omega)
  rw [Int.mul_comm b (t / b)] at h1
  constructor <;> omega
theorem tdiv_floor (t b : Int) (hb : 1 ≤ b) : t / b = if t.tmod b < 0 then t.tdiv b - 1 else t.tdiv b := by
  have h := Int.tmod_eq_emod (a := t) (b := b)
  have h' := Int.tdiv_eq_ediv (a := t) (b := b)
  have e2 := Int.emod_nonneg t (show b ≠ 0 by omega)
  have e3 := Int.emod_lt_of_pos t (show 0 < b by omega)
  rw [Int.sign_eq_one_of_pos (by omega)] at h'
  by_cases hc : 0 ≤ t ∨ b ∣ t
  · rw [if_pos hc] at h h'
    rw [if_neg (by omega)]
    omega
  · rw [if_neg hc] at h h'
    rw [if_pos (by omega)]
    omega
set_option maxHeartbeats 400000 in
theorem floor_any (t b : Int) (w : World) (h1 : 1 ≤ b) (h2 : b ≤ 1099511627776) (h3 : -2251799813685248 ≤ t) (h4 : t ≤ 2251799813685248) :
    Calls Try.prog 37 #[.int .i64 t, .int .i64 b] w fun e w' => e = .returned (.int .i64 (flr t b)) ∧ w = w' := by
  go_enter Try.func37, Try.ntmps37
  go_wp2
  all_goals
    go_ret
    refine ⟨ret_int ?_, rfl⟩
  · have hd := tdiv_floor t b h1
    have hf := flr_le t b h1
    rw [if_pos (by assumption)] at hd
    unfold flr at *
    rw [hd] at *
    have hn := Int.natAbs_tdiv_le_natAbs t b
    rw [show wrap64 (t.tdiv b - 1) = t.tdiv b - 1 by unfold wrap64; omega]
    unfold wrap64
    omega
  · have hd := tdiv_floor t b h1
    have hf := flr_le t b h1
    rw [if_neg (by omega)] at hd
    unfold flr at *
    rw [hd] at *
    unfold wrap64
    omega

theorem own_made1 {w W : World} (h : w.heap.size ≤ W.heap.size) (a b : Int) {g : Nat} (hg : g = W.heap.size) : (W.alloc (.cells #[.int .i64 a, .int .i64 b] 33)).ownsRow w.heap.size 33 2 (.slice (some ⟨g, 0, none⟩) 1 1) 1 [.int .i64 a, .int .i64 b] := by
  subst hg
  exact ⟨rfl, .inr ⟨W.heap.size, 1, _, rfl, h, heap_alloc_new W _, Nat.le_refl _, by decide, rfl, rfl⟩⟩

theorem own_weaken {w : World} {base base' e size n : Nat} {v : Value} {xs : List Value} (h : w.ownsRow base e size v n xs) (hb : base' ≤ base) : w.ownsRow base' e size v n xs := by
  obtain ⟨h1, h2⟩ := h
  refine ⟨h1, ?_⟩
  rcases h2 with h2 | ⟨g, cap, cur, hv, hg, hr⟩
  · exact .inl h2
  · exact .inr ⟨g, cap, cur, hv, by omega, hr⟩
theorem cells_new2 (w : World) (x y : Value) (t : TypeId) : ∀ j u, [x, y][j]? = some u → (w.alloc (.cells #[x, y] t)).cell? ((⟨w.heap.size, 0, none⟩ : Addr).add j) = some u := by
  intro j u hu
  rw [Addr.add_lit, World.cell?_alloc_new]
  simpa using hu

def wcells (l : List (Int × Int)) : List Value := l.flatMap fun p => [.int .i64 p.1, .int .i64 p.2]

theorem tumb_any (r : Nat) (K S L t : Int) (w : World) (hc : w.cell? ⟨r, 0, none⟩ = some (.func (.func 37) #[] #[])) (h1 : 1 ≤ S) (h2 : S ≤ 1099511627776) (h3 : -1125899906842624 ≤ t) (h4 : t ≤ 1125899906842624) :
    Calls Try.prog 40 #[.agg #[.int .i64 K, .int .i64 S, .int .i64 L], .int .i64 t, .pointer (some ⟨r, 0, none⟩)] w fun e w' => ∃ v, e = .returned v ∧ w'.ownsRow w.heap.size 33 2 v 1 (wcells [(flr t S, flr t S + S)]) ∧ Below w.heap.size w w' := by
  have hf := flr_le t S h1
  have hca : ∀ o, (w.alloc o).cell? ⟨r, 0, none⟩ = some (.func (.func 37) #[] #[]) := fun o => (World.cell?_alloc_lt w o _ (World.block_lt_of_cell? w _ hc)).trans hc
  go_enter Try.func40, Try.ntmps40
  go_wp2_with (go_at_call 37; refine (floor_any _ _ _ h1 h2 (by omega) (by omega)).mono ?_; rintro e w' ⟨rfl, rfl⟩)
  go_ret
  exact ⟨_, rfl, own_made1 (by simp) _ _ (by simp), bl_alloc (bl_alloc (Below.refl _ _) _) _⟩
theorem sess_any (K S L t : Int) (w : World) (h1 : 1 ≤ S) (h2 : S ≤ 1099511627776) (h3 : -1125899906842624 ≤ t) (h4 : t ≤ 1125899906842624) :
    Calls Try.prog 43 #[.agg #[.int .i64 K, .int .i64 S, .int .i64 L], .int .i64 t] w fun e w' => ∃ v, e = .returned v ∧ w'.ownsRow w.heap.size 33 2 v 1 (wcells [(t, t + S)]) ∧ Below w.heap.size w w' := by
  go_enter Try.func43, Try.ntmps43
  go_wp2
  go_ret
  exact ⟨_, rfl, own_made1 (by simp) _ _ (by simp), bl_alloc (bl_alloc (Below.refl _ _) _) _⟩

def slF (t S L : Int) (k : Nat) : Int := flr (t - S) L + L + k * L
def slL (t S L : Int) (n : Nat) : List (Int × Int) := (List.range n).map fun i => (slF t S L i, slF t S L i + S)
theorem slF_zero (t S L : Int) : flr (t - S) L + L = slF t S L 0 := by simp [slF]
theorem slF_succ (t S L : Int) (k : Nat) : slF t S L (k + 1) = slF t S L k + L := by
  unfold slF
  rw [Int.natCast_add, Int.add_mul]
  omega
def slN (t S L : Int) : Nat := ((t - slF t S L 0) / L + 1).toNat
theorem slF_lt (t S L : Int) (hL : 1 ≤ L) (hS : 1 ≤ S) (k : Nat) : k < slN t S L ↔ slF t S L k ≤ t := by
  have h0 := flr_le (t - S) L hL
  have hm := Int.mul_ediv_add_emod (t - slF t S L 0) L
  have h2 := Int.emod_nonneg (t - slF t S L 0) (show L ≠ 0 by omega)
  have h3 := Int.emod_lt_of_pos (t - slF t S L 0) (show 0 < L by omega)
  have e : slF t S L k = slF t S L 0 + k * L := by simp [slF]
  unfold slN
  rw [e]
  generalize (t - slF t S L 0) / L = q at *
  generalize (t - slF t S L 0) % L = r at *
  generalize slF t S L 0 = f at *
  constructor
  · intro h
    have h' : (k : Int) ≤ q := by omega
    have := Int.mul_le_mul_of_nonneg_right h' (show 0 ≤ L by omega)
    rw [Int.mul_comm q L] at this
    omega
  · intro h
    by_cases h' : (k : Int) ≤ q
    · omega
    · have h4 : q + 1 ≤ (k : Int) := by omega
      have := Int.mul_le_mul_of_nonneg_right h4 (show 0 ≤ L by omega)
      rw [Int.add_mul, Int.mul_comm q L] at this
      omega
theorem slL_succ (t S L : Int) (k : Nat) : wcells (slL t S L (k + 1)) = wcells (slL t S L k) ++ [.int .i64 (slF t S L k), .int .i64 (slF t S L k + S)] := by
  simp [slL, wcells, List.range_succ]
theorem slN_le (t S L : Int) (hL : 1 ≤ L) (hS : 1 ≤ S) (h8 : S ≤ 8 * L) : slN t S L ≤ 8 := by
  have h := (slF_lt t S L hL hS 8)
  have h0 := flr_le (t - S) L hL
  simp [slF] at h
  omega

theorem Try.info33 : (Try.prog.info? 33).map (fun i => (i.zero, i.size, i.bytes)) = some (some (.agg #[.int .i64 0, .int .i64 0]), 2, 16) := by kernel_rfl

set_option maxHeartbeats 1000000 in
theorem slide_any (r : Nat) (K S L t : Int) (w : World) (hc : w.cell? ⟨r, 0, none⟩ = some (.func (.func 37) #[] #[])) (h1 : 1 ≤ S) (h2 : S ≤ 1099511627776) (h1' : 1 ≤ L) (h2' : L ≤ 1099511627776) (h8 : S ≤ 8 * L) (h3 : -1125899906842624 ≤ t) (h4 : t ≤ 1125899906842624) :
    Calls Try.prog 42 #[.agg #[.int .i64 K, .int .i64 S, .int .i64 L], .int .i64 t, .pointer (some ⟨r, 0, none⟩)] w fun e w' => ∃ v, e = .returned v ∧ w'.ownsRow w.heap.size 33 2 v (slN t S L) (wcells (slL t S L (slN t S L))) ∧ Below w.heap.size w w' := by
  have hf := flr_le (t - S) L h1'
  have hlt := slF_lt t S L h1' h1
  have hN := slN_le t S L h1' h1 h8
  have hz := slF_zero t S L
  obtain ⟨i0, hi, hz0, hz1, hz2⟩ := info_parts Try.info33
  have hca : ∀ o, (w.alloc o).cell? ⟨r, 0, none⟩ = some (.func (.func 37) #[] #[]) := fun o => (World.cell?_alloc_lt w o _ (World.block_lt_of_cell? w _ hc)).trans hc
  have HLT := Lib.hid hlt
  have HZ := Lib.hid hz
  clear hlt hz
  go_enter Try.func42, Try.ntmps42
  go_wp2
  go_quiet ((go_at_call 37; exact Calls.quiet_of_same ((floor_any _ _ _ h1' h2' (by omega) (by omega)).mono fun _ _ h => ⟨h.1, h.2.symm⟩)))
  go_wp2
  go_loopw [6, 7] (fun v f wr => ∃ k : Nat, k ≤ slN t S L ∧ f = .int .i64 (slF t S L k) ∧ wr.ownsRow (w.heap.size + 1) 33 2 v k (wcells (slL t S L k)) ∧ Below (w.heap.size + 1) (w.alloc (.cells #[.int .i64 K, .int .i64 S, .int .i64 L] 23)) wr) (fun _ f _ => (t + L - intOf f).toNat)
  case atStart => exact ⟨0, Nat.zero_le _, by rw [HZ.out], World.ownsRow_nil _ _ _ _, bl_drewN (Below.refl _ _) _⟩
  case round =>
    obtain ⟨k, hk, rfl, hown, hbl⟩ := hrel
    have hS1 : wr.cell? ⟨w.heap.size, 1, none⟩ = some (.int .i64 S) := (hbl.cell (p := ⟨w.heap.size, 1, none⟩) (by simp)).trans (by simp)
    have hS2 : wr.cell? ⟨w.heap.size, 2, none⟩ = some (.int .i64 L) := (hbl.cell (p := ⟨w.heap.size, 2, none⟩) (by simp)).trans (by simp)
    have hsz : w.heap.size + 1 ≤ wr.heap.size := by have := hbl.size; simpa using this
    have hfl : -1125899906842624 - 1099511627776 ≤ slF t S L k := by
      have : 0 ≤ (k : Int) * L := Int.mul_nonneg (by omega) (by omega)
      unfold slF
      omega
    have hsu := slF_succ t S L k
    have HSU := Lib.hid hsu
    have HOWN := Lib.hid hown
    clear hsu hown
    by_cases hle : slF t S L k ≤ t
    · have hkn := (HLT.out k).2 hle
      go_wp2_with (at_builtin; refine wpList_append_own _ rfl _ _ 24 rfl (w.heap.size + 1) 33 i0 (.agg #[.int .i64 0, .int .i64 0]) 2 16 Try.underlying24 hi hz0 hz1 hz2 rfl (by decide) _ _ _ rfl (HOWN.out.alloc _) ⟨wr.heap.size, 0, none⟩ 1 1 [.int .i64 (slF t S L k), .int .i64 (slF t S L k + S)] rfl rfl ?c1 ?c2 ?c3 ?c4 ?c5 ?_)
      case c1 => exact cells_new2 _ _ _ _
      case c2 => simp [Value.oneCell']
      case c3 => simp [maxLen]; omega
      case c4 => omega
      case c5 => simp; omega
      intro v' w1 hown' hgrow _
      have hb1 : Below (w.heap.size + 1) (w.alloc (.cells #[.int .i64 K, .int .i64 S, .int .i64 L] 23)) w1 := (hbl.alloc hsz _).grown hgrow (by simp; omega) (fun g hg => by
        have := HOWN.out.lt g hg
        omega)
      have hS3 : w1.cell? ⟨w.heap.size, 2, none⟩ = some (.int .i64 L) := (hb1.cell (p := ⟨w.heap.size, 2, none⟩) (by simp)).trans (by simp)
      have HO := Lib.hid hown'
      clear hown'
      go_wp2
      go_roundw
      case rel => exact ⟨k + 1, by omega, by rw [HSU.out], by rw [slL_succ]; exact HO.out, hb1⟩
      case measure => simp [intOf]; omega
    · go_wp2
      have hkn : k = slN t S L := by
        have := HLT.out k
        have h' : ¬ k < slN t S L := fun h => by have := this.1 h; omega
        omega
      subst hkn
      go_ret
      exact ⟨_, rfl, own_weaken HOWN.out (by omega), ((Below.refl _ _).alloc (Nat.le_refl _) _).trans (hbl.mono (by omega))⟩
end Go.Proofs.Ytgpmceimhfkncaa
