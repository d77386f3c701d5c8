/- The printed functions Same and inside of the family PWindowWithin, on lists of windows as our own texts have them. Conditions: as each theorem states them. -/
import Derived.Test.YtgpmceimhfkncaaB3
import Derived.Test.YtgpmceimhfkncaaPWindowWithinx0
import Derived.Test.YtgpmceimhfkncaaPWindowWithinx1
import Derived.Test.YtgpmceimhfkncaaPWindowWithinx2
import Derived.Test.YtgpmceimhfkncaaPWindowWithinx3
import Derived.Test.YtgpmceimhfkncaaPWindowWithinx4
namespace Go.Proofs.Ytgpmceimhfkncaa.WW
open Go.RowKit Go.Proofs.Ytgpmceimhfkncaa Go.Proofs.Ytgpmceimhfkncaa.PWindowWithin Go.Proofs.YtgpmceimhfkncaaW.PrintWords Go.Proofs.YtgpmceimhfkncaaW.PrintLast
set_option linter.unusedVariables false
set_option linter.unusedSimpArgs false

def toS (p : Int × Int) : S33 := ⟨p.1, p.2⟩
theorem C_of_RdW {w : World} {B : Nat} {A : Option Addr} {l : List (Int × Int)} (h : RdW w B A l) : Kd.C k33 w A (l.map toS).length (l.map toS) := by
  refine ⟨rfl, by rw [List.length_map]; exact h.1, fun hn => ?_⟩
  rw [List.length_map] at hn
  obtain ⟨b, off, rfl, _, hc⟩ := h.2 hn
  refine ⟨_, rfl, fun j p hp => ⟨[.int .i64 p.f0, .int .i64 p.f1], rfl, k33_mk w p, fun i u hu => ?_⟩⟩
  rw [List.getElem?_map, Option.map_eq_some_iff] at hp
  obtain ⟨q, hq, rfl⟩ := hp
  have hj : j < l.length := (List.getElem?_eq_some_iff.1 hq).1
  have hg : l.getD j (0, 0) = q := by rw [List.getD_eq_getElem?_getD, hq]; rfl
  have hcj := hc j hj
  rw [hg] at hcj
  have hs : k33.sz = 2 := rfl
  rw [hs, Addr.add_lit]
  match i, hu with
  | 0, hu => simp at hu; rw [← hu]; exact hcj.1
  | 1, hu => simp at hu; rw [← hu, ← Nat.add_assoc]; exact hcj.2

theorem same_loop (l : List S33) (hn : l.length ≤ 9223372036854775807) (d : Nat) : ∀ (k : Nat) (i : Nat), i ≤ l.length → l.length - i = d → d < k → freshetref21_Same.l0 k l l (i : Int) = some true := by
  induction d with
  | zero =>
    intro k i hi hd hk
    obtain ⟨k, rfl⟩ : ∃ m, k = m + 1 := ⟨k - 1, by omega⟩
    simp only [freshetref21_Same.l0]
    rw [if_neg (by omega)]
  | succ d ih =>
    intro k i hi hd hk
    obtain ⟨k, rfl⟩ : ∃ m, k = m + 1 := ⟨k - 1, by omega⟩
    simp only [freshetref21_Same.l0]
    rw [if_pos (by omega), if_pos (by omega), if_pos (by omega), if_neg (by simp), show wrap64 ((i : Int) + 1) = ((i + 1 : Nat) : Int) by unfold wrap64; omega]
    exact ih k (i + 1) (by omega) (by omega) (by omega)
theorem same_refl (l : List S33) (hn : l.length ≤ 9223372036854775807) : freshetref21_Same.f (l.length + 1) l l = some true := by
  unfold freshetref21_Same.f
  rw [if_pos rfl]
  exact same_loop l hn l.length _ 0 (by omega) (by omega) (by omega)
theorem same_any (A0 A1 : Option Addr) (c0 c1 : Nat) (l : List (Int × Int)) (w : World) (hr0 : Kd.C k33 w A0 (l.map toS).length (l.map toS)) (hc0 : l.length ≤ c0) (hr1 : Kd.C k33 w A1 (l.map toS).length (l.map toS)) (hc1 : l.length ≤ c1) :
    Calls Try.prog 14 #[.slice A0 l.length c0, .slice A1 l.length c1] w fun e w' => e = .returned (.bool true) ∧ Below w.heap.size w w' := by
  have h := freshetref21_Same.calls ((l.map toS).length + 1) A0 c0 (l.map toS) A1 c1 (l.map toS) true w hr0 (by rw [List.length_map]; exact hc0) hr1 (by rw [List.length_map]; exact hc1) (same_refl _ hr0.2.1)
  rw [List.length_map] at h
  exact h.mono fun e w' ⟨he, hd⟩ => ⟨he, hd.below⟩

/-- Is a window within one of a list? -/
def insideB (l : List (Int × Int)) (x : Int × Int) : Bool := l.any fun a => decide (a.1 ≤ x.1) && decide (x.2 ≤ a.2)
theorem inside_loop (l : List (Int × Int)) (x : Int × Int) (hn : l.length ≤ 9223372036854775807) (d : Nat) : ∀ (k : Nat) (i : Nat), i ≤ l.length → l.length - i = d → d < k → freshetlaw21_inside.l0 k (l.map toS) (i : Int) x.1 x.2 = some (insideB (l.drop i) x) := by
  induction d with
  | zero =>
    intro k i hi hd hk
    obtain ⟨k, rfl⟩ : ∃ m, k = m + 1 := ⟨k - 1, by omega⟩
    simp only [freshetlaw21_inside.l0]
    rw [if_neg (by rw [List.length_map]; omega), List.drop_eq_nil_of_le (by omega)]
    rfl
  | succ d ih =>
    intro k i hi hd hk
    obtain ⟨k, rfl⟩ : ∃ m, k = m + 1 := ⟨k - 1, by omega⟩
    have hil : i < l.length := by omega
    have hrd : rd_T33 (l.map toS) (i : Int) = toS l[i] := by simp [rd_T33, hil]
    have hst : insideB (l.drop i) x = (decide (l[i].1 ≤ x.1) && decide (x.2 ≤ l[i].2) || insideB (l.drop (i + 1)) x) := by
      rw [List.drop_eq_getElem_cons hil]
      rfl
    simp only [freshetlaw21_inside.l0]
    rw [if_pos (by rw [List.length_map]; omega), if_pos (by omega), hrd, hst, show wrap64 ((i : Int) + 1) = ((i + 1 : Nat) : Int) by unfold wrap64; omega, ih k (i + 1) (by omega) (by omega) (by omega)]
    show (if l[i].1 ≤ x.1 then if x.2 ≤ l[i].2 then some true else _ else _) = _
    by_cases h1 : l[i].1 ≤ x.1
    · by_cases h2 : x.2 ≤ l[i].2
      · simp [h1, h2]
      · simp [h1, h2]
    · simp [h1]
theorem inside_any (A0 : Option Addr) (c0 : Nat) (l : List (Int × Int)) (x1 x2 : Int) (r : Bool) (w : World) (hr0 : Kd.C k33 w A0 (l.map toS).length (l.map toS)) (hc0 : l.length ≤ c0) (h : insideB l (x1, x2) = r) :
    Calls Try.prog 23 #[.slice A0 l.length c0, .agg #[.int .i64 x1, .int .i64 x2]] w fun e w' => e = .returned (.bool r) ∧ Below w.heap.size w w' := by
  have hn : l.length ≤ 9223372036854775807 := by have := hr0.2.1; rwa [List.length_map] at this
  have h := freshetlaw21_inside.calls (l.length + 1) A0 c0 (l.map toS) x1 x2 r w hr0 (by rw [List.length_map]; exact hc0) (by rw [← h]; exact inside_loop l (x1, x2) hn l.length (l.length + 1) 0 (by omega) (by omega) (by omega))
  rw [List.length_map] at h
  exact h
end Go.Proofs.Ytgpmceimhfkncaa.WW
