/- Contract of slices.Sorted of a map's keys, of none and of three. Conditions: as each theorem states them. -/
import Derived.Test.YtmalcekbhnkfgaaB4
namespace Go.Proofs.Ytmalcekbhnkfgaa
open Go.RowKit Go.Maps Go.Shelf
set_option linter.unusedVariables false
set_option linter.unusedSimpArgs false

theorem collect_any (Bm b nn : Nat) (D0 : DataW Unit) (w : World) (hBm : Bm < w.heap.size) (hm : w.cell? ⟨Bm, 0, none⟩ = some (.map (some b))) (hown : w.ownsMap Try.prog 23 (plainElem Try.prog 3) b nn D0) (hsz : size D0 ≤ 1000000) :
    Calls Try.prog 46 #[.func (.func 48) #[] #[.pointer (some ⟨Bm, 0, none⟩)]] w fun e w' => ∃ (v : Value) (ys : List U64), e = .returned v ∧ KeysL D0 ys ∧ w'.ownsRow w.heap.size 23 1 v ys.length (ucells ys) ∧ Below w.heap.size w w' := by
  have H := Lib.hid (appendseq_any Bm b nn D0 w hBm hm hown hsz)
  clear hm hown
  go_enter Try.func46, Try.ntmps46
  go_wp2_with (fail)
  refine H.out.mono ?_
  rintro e w2 ⟨v, ys, rfl, hk, hrow, hb⟩
  have HK := Lib.hid hk
  have HR := Lib.hid hrow
  have HB := Lib.hid hb
  clear hk hrow hb
  go_wp2_with (fail)
  go_ret
  exact ⟨v, ys, rfl, HK.out, HR.out, HB.out⟩
theorem own_row {w : World} {B g n cap : Nat} {l : List Int} (h : w.ownsRow B 23 1 (.slice (some ⟨g, 0, none⟩) n cap) n (icells l)) (hl : l.length = n) : RowI w g n (fun i => l.getD i 0) := by
  rcases h.2 with ⟨e, _⟩ | ⟨g', cap', cur, e, hB, hg, h1, h2, h3, h4⟩
  · simp at e
  · simp at e
    obtain ⟨rfl, rfl⟩ := e
    refine ⟨(Array.getElem?_eq_some_iff.1 hg).1, fun i hi => ⟨?_, ?_⟩⟩
    · have hc : (icells l)[i]? = some (.int .u64 (l.getD i 0)) := by
        unfold icells
        rw [List.getElem?_map, List.getElem?_eq_getElem (by omega), List.getD_eq_getElem?_getD, List.getElem?_eq_getElem (by omega)]
        rfl
      rw [← h4, List.getElem?_take] at hc
      split at hc
      · simp only [World.cell?, hg]
        simpa using hc
      · cases hc
    · simp [World.frozen?, hg]
theorem sorted_three (Bm b nn : Nat) (D0 : DataW Unit) (w : World) (hBm : Bm < w.heap.size) (hm : w.cell? ⟨Bm, 0, none⟩ = some (.map (some b))) (hown : w.ownsMap Try.prog 23 (plainElem Try.prog 3) b nn D0) (hsz : size D0 ≤ 1000000) (h3 : ∀ ys, KeysL D0 ys → ys.length = 3) :
    Calls Try.prog 37 #[.func (.func 48) #[] #[.pointer (some ⟨Bm, 0, none⟩)]] w fun e w' => ∃ (g cap : Nat) (ys : List U64) (z : Nat → Int), e = .returned (.slice (some ⟨g, 0, none⟩) 3 cap) ∧ KeysL D0 ys ∧ 3 ≤ cap ∧ w.heap.size ≤ g ∧ RowI w' g 3 z ∧ ((List.range 3).map z).Perm (ys.map Subtype.val) ∧ Ord z 3 ∧ Below w.heap.size w w' := by
  have H := Lib.hid (collect_any Bm b nn D0 w hBm hm hown hsz)
  have H3 := Lib.hid h3
  clear hm hown h3
  go_enter Try.func37, Try.ntmps37
  go_wp2_with (fail)
  refine H.out.mono ?_
  rintro e w2 ⟨v, ys, rfl, hk, hrow, hb⟩
  have hlen := H3.out ys hk
  rw [hlen] at hrow
  obtain ⟨g, cap, rfl⟩ := ownsRow_succ hrow
  have hgB := own_ge hrow g rfl
  have hcap : 3 ≤ cap := by
    rcases hrow.2 with ⟨e, _⟩ | ⟨g', cap', cur, e, hB, hg, h1, _⟩
    · simp at e
    · simp at e; omega
  have hrow' : w2.ownsRow w.heap.size 23 1 (.slice (some ⟨g, 0, none⟩) 3 cap) 3 (icells (ys.map Subtype.val)) := by
    have e : icells (ys.map Subtype.val) = ucells ys := by simp [icells, ucells]
    rw [e]
    exact hrow
  have hR := own_row hrow' (by simp [hlen])
  have HS := Lib.hid (sort_3 g cap _ w2 hR hcap)
  have HK := Lib.hid hk
  have HB := Lib.hid hb
  have hp0 : (List.range 3).map (fun i => (ys.map Subtype.val).getD i 0) = ys.map Subtype.val := by
    apply List.ext_getElem
    · simp [hlen]
    · intro i h1 h2
      simp at h1 h2
      simp [List.getD_eq_getElem?_getD, h2]
  have HP0 := Lib.hid hp0
  clear hrow hrow' hR hk hb hp0
  go_wp2_with (fail)
  refine HS.out.mono ?_
  rintro e w3 ⟨rfl, ⟨z, hz, hp, ho⟩, hk3⟩
  have HZ := Lib.hid hz
  have HP := Lib.hid hp
  have HO := Lib.hid ho
  have HK3 := Lib.hid hk3
  clear hz hp ho hk3
  go_wp2_with (fail)
  go_ret
  have hp := HP.out
  rw [HP0.out] at hp
  exact ⟨g, cap, ys, z, rfl, HK.out, hcap, hgB, HZ.out, hp, HO.out, HB.out.trans (HK3.out.below (by have := HB.out.size; omega) (fun b hb => by omega))⟩
theorem sorted_none (Bm b nn : Nat) (D0 : DataW Unit) (w : World) (hBm : Bm < w.heap.size) (hm : w.cell? ⟨Bm, 0, none⟩ = some (.map (some b))) (hown : w.ownsMap Try.prog 23 (plainElem Try.prog 3) b nn D0) (hsz : size D0 ≤ 1000000) (h3 : ∀ ys, KeysL D0 ys → ys.length = 0) :
    Calls Try.prog 37 #[.func (.func 48) #[] #[.pointer (some ⟨Bm, 0, none⟩)]] w fun e w' => ∃ (A : Option Addr) (cap : Nat), e = .returned (.slice A 0 cap) ∧ Below w.heap.size w w' := by
  have H := Lib.hid (collect_any Bm b nn D0 w hBm hm hown hsz)
  have H3 := Lib.hid h3
  clear hm hown h3
  go_enter Try.func37, Try.ntmps37
  go_wp2_with (fail)
  refine H.out.mono ?_
  rintro e w2 ⟨v, ys, rfl, hk, hrow, hb⟩
  have hlen := H3.out ys hk
  rw [hlen] at hrow
  obtain ⟨A, cap, rfl⟩ : ∃ A cap, v = .slice A 0 cap := by
    rcases hrow.2 with ⟨e, _⟩ | ⟨g', cap', cur, e, _⟩
    · exact ⟨_, _, e⟩
    · exact ⟨_, _, e⟩
  have HS := Lib.hid (sort_0 A cap w2)
  have HB := Lib.hid hb
  clear hrow hk hb hlen
  go_wp2_with (fail)
  refine HS.out.mono ?_
  rintro e w3 ⟨rfl, rfl⟩
  go_wp2_with (fail)
  go_ret
  exact ⟨A, cap, rfl, HB.out⟩
end Go.Proofs.Ytmalcekbhnkfgaa
