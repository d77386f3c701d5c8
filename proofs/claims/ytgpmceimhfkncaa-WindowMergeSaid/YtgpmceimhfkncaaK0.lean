/- The walk of the law WindowMerge: it returns true, for any list of windows and any window. Conditions: as the theorem states them. -/
import Derived.Test.YtgpmceimhfkncaaJ1
import Derived.Test.YtgpmceimhfkncaaN1
import Derived.Test.YtgpmceimhfkncaaE0
namespace Go.Proofs.Ytgpmceimhfkncaa
open Go.RowKit Go.Proofs.YtgpmceimhfkncaaW.PrintWords Go.Proofs.Ytgpmceimhfkncaa.WM Go.Proofs.Ytgpmceimhfkncaa.PWindowMerge Go.Proofs.YtgpmceimhfkncaaW.PrintLast
set_option linter.unusedVariables false
set_option linter.unusedSimpArgs false

theorem refmerge_any (A : Option Addr) (c : Nat) (l : List (Int × Int)) (x1 x2 : Int) (w : World) (hr : Kd.C k33 w A (l.map toS).length (l.map toS)) (hc : l.length ≤ c) (hn : l.length ≤ 1000000)
    (o : Int × Int) (G R : List (Int × Int)) (er : Int) (hq : mergeV l (x1, x2) = (o, G, R, er)) :
    Calls Try.prog 19 #[.slice A l.length c, .agg #[.int .i64 x1, .int .i64 x2]] w fun e w' => ∃ A3 c3 A4 c4, e = .returned (.tuple #[.agg #[.int .i64 o.1, .int .i64 o.2], .slice A3 G.length c3, .slice A4 R.length c4, .int .i64 er]) ∧
      G.length ≤ c3 ∧ Kd.C k33 w' A3 (G.map toS).length (G.map toS) ∧ R.length ≤ c4 ∧ Kd.C k33 w' A4 (R.map toS).length (R.map toS) ∧ Below w.heap.size w w' := by
  obtain ⟨K, h⟩ := merge_ref l (x1, x2) hn
  rw [hq] at h
  have h := freshetref21_Merge.calls K A c (l.map toS) x1 x2 _ _ _ _ _ w hr (by rw [List.length_map]; exact hc) h
  rw [List.length_map] at h
  refine h.mono ?_
  rintro e w' ⟨v, v', rfl, hR, hR', hb⟩
  obtain ⟨A3, c3, rfl, hl3, hC3⟩ := Kd.R_reads hR
  obtain ⟨A4, c4, rfl, hl4, hC4⟩ := Kd.R_reads hR'
  rw [List.length_map] at hl3 hl4
  exact ⟨A3, c3, A4, c4, by rw [List.length_map, List.length_map], hl3, hC3, hl4, hC4, hb⟩
theorem refapart_any (A : Option Addr) (c : Nat) (l : List (Int × Int)) (w : World) (r : Bool) (hr0 : apartFrom l 0 = r) (hr : Kd.C k33 w A (l.map toS).length (l.map toS)) (hc : l.length ≤ c) (hn : l.length ≤ 1000000) :
    Calls Try.prog 21 #[.slice A l.length c] w fun e w' => e = .returned (.bool r) ∧ Below w.heap.size w w' := by
  obtain ⟨K, h⟩ := apart_ref l hn
  rw [hr0] at h
  have h := freshetref21_Apart.calls K A c (l.map toS) r w hr (by rw [List.length_map]; exact hc) h
  rw [List.length_map] at h
  exact h

/-- A row of the call's own, of windows, that is not empty: its block, and what its cells hold. -/
theorem own_block {w : World} {base n : Nat} {v : Value} {xs : List Value} (h : w.ownsRow base 33 2 v n xs) : ∃ A c, v = .slice A n c ∧ n ≤ c ∧ (0 < n → ∃ g cs, A = some ⟨g, 0, none⟩ ∧ base ≤ g ∧ w.heap[g]? = some (.cells cs 33 (0, 0)) ∧ n * 2 ≤ cs.size) := by
  obtain ⟨h1, h2⟩ := h
  rcases h2 with ⟨rfl, h0⟩ | ⟨g, cap, cur, rfl, hb, hh, hc, hm, hs, ht⟩
  · subst h0
    exact ⟨_, _, rfl, Nat.le_refl _, fun hn => by omega⟩
  · exact ⟨_, _, rfl, hc, fun _ => ⟨g, cur, rfl, hb, hh, by rw [hs]; omega⟩⟩

theorem own_ge {w : World} {base e size n : Nat} {v : Value} {xs : List Value} (h : w.ownsRow base e size v n xs) : ∀ g, v.ownBlock = some g → base ≤ g := by
  intro g hg
  rcases h.2 with ⟨rfl, h0⟩ | ⟨g', cap, cur, rfl, hb, _⟩
  · simp [Value.ownBlock] at hg
  · simp [Value.ownBlock] at hg; omega
theorem RdW.front {w : World} {B : Nat} {A : Option Addr} {l m : List (Int × Int)} (h : RdW w B A (l ++ m)) : RdW w B A l := by
  refine ⟨by have := h.1; rw [List.length_append] at this; omega, fun hn => ?_⟩
  obtain ⟨b, off, e, hb, hc⟩ := h.2 (by rw [List.length_append]; omega)
  refine ⟨b, off, e, hb, fun i hi => ?_⟩
  have := hc i (by rw [List.length_append]; omega)
  rwa [show (l ++ m).getD i (0, 0) = l.getD i (0, 0) by rw [List.getD_eq_getElem?_getD, List.getD_eq_getElem?_getD, List.getElem?_append_left hi]] at this
theorem new_row (w : World) (o o' : Obj) : ((w.alloc o).alloc o').heap[w.heap.size + 1]? = some o' := by
  have : (w.alloc o).heap.size = w.heap.size + 1 := by simp
  rw [← this]
  exact Array.getElem?_push_size
/-- The block is a row of windows, of at least so many, nothing frozen. -/
def Shape (w : World) (g n : Nat) : Prop := ∃ cs, w.heap[g]? = some (.cells cs 33 (0, 0)) ∧ n * 2 ≤ cs.size
theorem Shape.set {w : World} {g n : Nat} (h : Shape w g n) (p : Addr) (v : Value) : Shape (w.setCell p v) g n := by
  obtain ⟨cs, h1, h2⟩ := h
  by_cases hp : p.block = g
  · unfold Shape World.setCell
    simp only [Array.getElem?_modify, hp, if_true, h1, Option.map_some]
    refine ⟨_, rfl, ?_⟩
    split
    · exact h2
    · simpa using h2
  · exact ⟨cs, (Below.heap_setCell w p v g (fun h => hp h.symm)).trans h1, h2⟩
theorem Shape.at_ {w : World} {g n : Nat} (h : Shape w g n) {j : Nat} (hj : j < n * 2) : (∃ v, w.cell? ⟨g, j, none⟩ = some v) ∧ w.frozen? ⟨g, j, none⟩ = false := by
  obtain ⟨cs, h1, h2⟩ := h
  constructor
  · refine ⟨cs[j]'(by omega), ?_⟩
    simp [World.cell?, h1]
  · simp [World.frozen?, h1]
theorem Shape.below {w w' : World} {B g n : Nat} (h : Shape w g n) (hb : Below B w w') (hg : g < B) : Shape w' g n := by
  obtain ⟨cs, h1, h2⟩ := h
  exact ⟨cs, (hb.block g hg).trans h1, h2⟩
theorem Shape.lt {w : World} {g n : Nat} (h : Shape w g n) : g < w.heap.size := by
  obtain ⟨cs, h1, _⟩ := h
  exact (Array.getElem?_eq_some_iff.1 h1).1
set_option maxHeartbeats 1000000 in
theorem wmerge (A : Option Addr) (c : Nat) (l : List (Int × Int)) (x1 x2 : Int) (w : World) (hr : RdW w w.heap.size A l) (hc : l.length ≤ c) (hnone : A = none → c = 0) (hn : l.length ≤ 200) :
    Calls Try.prog 4 #[.slice A l.length c, .agg #[.int .i64 x1, .int .i64 x2]] w fun e w' => e = .returned (.bool true) ∧ Below w.heap.size w w' := by
  obtain ⟨⟨o1, o2⟩, G, R, er, hq⟩ : ∃ o G R er, mergeV l (x1, x2) = (o, G, R, er) := ⟨_, _, _, _, rfl⟩
  obtain ⟨ap, hap⟩ : ∃ b, apartFrom l 0 = b := ⟨_, rfl⟩
  have hml := hr.1
  have HR := Lib.hid hr
  have HQ := Lib.hid hq
  have HAP := Lib.hid hap
  have HN := Lib.hid hnone
  clear hr hq hap hnone
  go_enter Try.func4, Try.ntmps4
  have hown0 : ∀ o : Obj, (((w.alloc o).alloc (Obj.cells #[] 33))).ownsRow (w.heap.size + 1) 33 2 (.slice (some ⟨w.heap.size + 1, 0, none⟩) 0 0) 0 [] := fun o =>
    ⟨rfl, .inr ⟨w.heap.size + 1, 0, #[], rfl, Nat.le_refl _, new_row w o _, Nat.le_refl _, by simp [maxLen], rfl, rfl⟩⟩
  go_wp2_with (at_builtin; refine wpList_append_l _ rfl _ _ rfl (w.heap.size + 1) 0 (.slice (some ⟨w.heap.size + 1, 0, none⟩) 0 0) [] rfl (hown0 _) A c w.heap.size l rfl (HR.out.below (bl_alloc (bl_alloc (Below.refl _ _) _) _)) HN.out (by omega) (by simp) ?_)
  intro v1 w1 hown1 hgrow1
  clear hown0
  have hb1 : Below (w.heap.size + 1) (w.alloc (Obj.cells #[Value.int IntKind.i64 x1, Value.int IntKind.i64 x2] 33)) w1 := (((Below.refl _ _).alloc (by simp) _).grown hgrow1 (by simp) (fun g hg => by simp [Value.ownBlock] at hg; first | done | omega))
  have hz1 : w.heap.size < w1.heap.size := by have := hb1.size; simp at this; omega
  go_wp2_with (at_builtin; refine wpList_append_w _ rfl _ _ rfl (w.heap.size + 1) _ _ _ rfl (own_below hown1 (bl_alloc (Below.refl _ _) _)) w1.heap.size 77 0 rfl (by go_simp) (by go_simp) (by omega) (by simp; omega) ?_)
  intro v2 w2 hown2 hgrow2
  have hb2 := (hb1.alloc (by omega) (Obj.cells #[Value.int IntKind.i64 77, Value.int IntKind.i64 0] 33)).grown hgrow2 (by simp; omega) (own_ge hown1)
  have hz2 : w.heap.size < w2.heap.size := by have := hb2.size; simp at this; omega
  have hown2' : w2.ownsRow (w.heap.size + 1) 33 2 v2 (l ++ [(77, 0)]).length (wcells (l ++ [(77, 0)])) := by rw [wcells_append, List.length_append]; exact hown2
  obtain ⟨A0, c0, rfl, hc0, hr0⟩ := own_reads hown2'
  obtain ⟨_, _, e, _, hg0⟩ := own_block hown2'
  cases e
  obtain ⟨g0, cs0, rfl, hgb, _, _⟩ := hg0 (by rw [List.length_append]; simp)
  obtain ⟨_, _, e, hgz, g77, _⟩ := hr0.at_ (k := l.length) (by rw [List.length_append]; simp)
  cases e
  rw [show (l ++ [((77 : Int), (0 : Int))]).getD l.length (0, 0) = (77, 0) by simp] at g77
  have hr0 := hr0.front
  rw [List.length_append, List.length_singleton] at hc0 ⊢
  rw [Nat.zero_add] at g77
  have q0 : w2.cell? ⟨w.heap.size, 0, none⟩ = some (.int .i64 x1) := (hb2.cell (p := ⟨w.heap.size, 0, none⟩) (by simp)).trans (by go_simp)
  have q1 : w2.cell? ⟨w.heap.size, 1, none⟩ = some (.int .i64 x2) := (hb2.cell (p := ⟨w.heap.size, 1, none⟩) (by simp)).trans (by go_simp)
  clear hown1 hgrow1 hown2 hown2' hgrow2 hb1 hz1
  have h0c : decide (l.length ≤ c0) = true := by simp; omega
  go_wp2_with (fail)
  refine (merge_any (some ⟨g0, 0, none⟩) c0 l x1 x2 _ hr0 (by omega) (by omega) _ _ _ _ HQ.out).mono ?_
  rintro e w3 ⟨vg, vr, rfl, hg, hr, hb3⟩
  obtain ⟨A1, c1, rfl, hc1, hr1⟩ := own_reads hg
  obtain ⟨A2, c2, rfl, hc2, hr2⟩ := own_reads hr
  obtain ⟨_, _, e, _, hG⟩ := own_block hg
  cases e
  obtain ⟨_, _, e, _, hRb⟩ := own_block hr
  cases e
  clear hg hr
  have q0 := (hb3.cell (p := ⟨w.heap.size, 0, none⟩) (by simp; omega)).trans q0
  have q1 := (hb3.cell (p := ⟨w.heap.size, 1, none⟩) (by simp; omega)).trans q1
  have hz3 : w2.heap.size ≤ w3.heap.size := hb3.size
  have hz33 : w.heap.size < w3.heap.size := by omega
  have hb23 := hb2.trans (hb3.mono (by omega))
  go_wp2_with (fail)
  refine (refmerge_any A c l x1 x2 _ (C_of_RdW (HR.out.below ((bl_alloc (Below.refl _ _) _).trans ((hb23.alloc (by omega) _).mono (by simp))))) hc (by omega) _ _ _ _ HQ.out).mono ?_
  rintro e w4 ⟨A3, c3, A4, c4, rfl, hc3, hC3, hc4, hC4, hb4⟩
  have hz4 : w3.heap.size < w4.heap.size := by have := hb4.size; simp at this; omega
  have p0 : w4.cell? ⟨w3.heap.size, 0, none⟩ = some (.int .i64 o1) := (hb4.cell (p := ⟨w3.heap.size, 0, none⟩) (by simp)).trans (by go_simp)
  have p1 : w4.cell? ⟨w3.heap.size, 1, none⟩ = some (.int .i64 o2) := (hb4.cell (p := ⟨w3.heap.size, 1, none⟩) (by simp)).trans (by go_simp)
  have b34 : Below w3.heap.size w3 w4 := bl_then (bl_alloc (Below.refl _ _) _) hb4
  clear q0 q1 hb4
  go_wp2_with (fail)
  refine (same_any A1 A3 c1 c3 G _ (C_of_RdW (hr1.below (bl_alloc (bl_then b34 (Below.refl _ _)) _))) hc1 (Kd.C_below hC3 (bl_alloc (Below.refl _ _) _)) hc3).mono ?_
  rintro e w5 ⟨rfl, hb5⟩
  have b45 : Below w4.heap.size w4 w5 := bl_then (bl_alloc (Below.refl _ _) _) hb5
  clear hb5
  go_wp2_with (fail)
  refine (same_any A2 A4 c2 c4 R _ (C_of_RdW (hr2.below (bl_then b34 b45))) hc2 (Kd.C_below hC4 b45) hc4).mono ?_
  rintro e w6 ⟨rfl, hb6⟩
  have b36 : Below w3.heap.size w3 w6 := bl_then (bl_then b34 b45) hb6
  clear b45 hb6 p0 p1 hC3 hC4
  go_wp2_with (fail)
  refine (apart_any _ _ l _ ((hr0.below (hb3.trans (b36.mono (by omega)))).more (by have := b36.size; omega)) (by omega) ap HAP.out).mono ?_
  rintro e w7 ⟨rfl, hb7⟩
  have b37 : Below w3.heap.size w3 w7 := bl_then b36 hb7
  clear hb7 b36
  go_wp2_with (fail)
  refine (refapart_any A c l _ ap HAP.out (C_of_RdW (HR.out.below (((bl_alloc (Below.refl _ _) _).trans (hb23.mono (by omega))).trans (b37.mono (by omega))))) hc (by omega)).mono ?_
  rintro e w8 ⟨rfl, hb8⟩
  have b38 : Below w3.heap.size w3 w8 := bl_then b37 hb8
  clear hb8 b37
  have HG : Hid (0 < G.length → ∃ g, A1 = some ⟨g, 0, none⟩ ∧ w2.heap.size ≤ g ∧ Shape w8 g G.length) := Lib.hid fun hn => by
    obtain ⟨g, cs, e, h1, h2, h3⟩ := hG hn
    have h : Shape w3 g G.length := ⟨cs, h2, h3⟩
    exact ⟨g, e, h1, h.below b38 h.lt⟩
  have HRb : Hid (0 < R.length → ∃ g, A2 = some ⟨g, 0, none⟩ ∧ w2.heap.size ≤ g ∧ Shape w8 g R.length) := Lib.hid fun hn => by
    obtain ⟨g, cs, e, h1, h2, h3⟩ := hRb hn
    have h : Shape w3 g R.length := ⟨cs, h2, h3⟩
    exact ⟨g, e, h1, h.below b38 h.lt⟩
  clear hG hRb
  go_wp2_with (fail)
  go_loopw [14] (fun i wr => ∃ k : Nat, k ≤ G.length ∧ i = .int .i64 k ∧ Below w2.heap.size w8 wr ∧ (0 < G.length → ∃ g, A1 = some ⟨g, 0, none⟩ ∧ w2.heap.size ≤ g ∧ Shape wr g G.length) ∧ (0 < R.length → ∃ g, A2 = some ⟨g, 0, none⟩ ∧ w2.heap.size ≤ g ∧ Shape wr g R.length)) (fun i _ => G.length - (intOf i).toNat)
  case atStart => exact ⟨0, Nat.zero_le _, rfl, Below.refl _ _, HG.out, HRb.out⟩
  clear HG HRb
  case round =>
    obtain ⟨k, hk, rfl, hbl, h1, h2⟩ := hrel
    by_cases hlt : k < G.length
    · have hml2 : G.length ≤ 9223372036854775807 := by first | exact hr1.1 | exact hr2.1
      have hsG := Lib.hid h1
      have hsR := Lib.hid h2
      obtain ⟨g, rfl, hgg, hsh⟩ := h1 (by omega)
      obtain ⟨⟨u0, hu0⟩, hf0⟩ := hsh.at_ (j := k * 2) (by omega)
      obtain ⟨⟨u1, hu1⟩, hf1⟩ := hsh.at_ (j := k * 2 + 1) (by omega)
      have hglt := hsh.lt
      have HBL := Lib.hid hbl
      have HSH := Lib.hid hsh
      clear h1 h2 hbl hsh
      go_wp2_with (fail)
      go_roundw
      case rel => exact ⟨k + 1, hlt, by go_num, (HBL.out.setCell (by exact hgg) _).setCell (by exact hgg) _, fun hn => by obtain ⟨g', e, h3, h4⟩ := hsG.out hn; exact ⟨g', e, h3, (h4.set _ _).set _ _⟩, fun hn => by obtain ⟨g', e, h3, h4⟩ := hsR.out hn; exact ⟨g', e, h3, (h4.set _ _).set _ _⟩⟩
      case measure => simp [intOf]; omega
    · have HBL := Lib.hid hbl
      have HG := Lib.hid h1
      have HRb := Lib.hid h2
      clear hbl h1 h2
      go_wp2_with (fail)
      go_loopw [15] (fun i wr => ∃ k : Nat, k ≤ R.length ∧ i = .int .i64 k ∧ Below w2.heap.size w8 wr ∧ (0 < G.length → ∃ g, A1 = some ⟨g, 0, none⟩ ∧ w2.heap.size ≤ g ∧ Shape wr g G.length) ∧ (0 < R.length → ∃ g, A2 = some ⟨g, 0, none⟩ ∧ w2.heap.size ≤ g ∧ Shape wr g R.length)) (fun i _ => R.length - (intOf i).toNat)
      case atStart => exact ⟨0, Nat.zero_le _, rfl, HBL.out, HG.out, HRb.out⟩
      clear HBL HG HRb
      case round =>
        obtain ⟨k2, hk2, rfl, hbl, h1, h2⟩ := hrel
        by_cases hlt2 : k2 < R.length
        · have hml2 : R.length ≤ 9223372036854775807 := by first | exact hr2.1 | exact hr1.1
          have hsG := Lib.hid h1
          have hsR := Lib.hid h2
          obtain ⟨g, rfl, hgg, hsh⟩ := h2 (by omega)
          obtain ⟨⟨u0, hu0⟩, hf0⟩ := hsh.at_ (j := k2 * 2) (by omega)
          obtain ⟨⟨u1, hu1⟩, hf1⟩ := hsh.at_ (j := k2 * 2 + 1) (by omega)
          have hglt := hsh.lt
          have HBL := Lib.hid hbl
          have HSH := Lib.hid hsh
          clear h1 h2 hbl hsh
          go_wp2_with (fail)
          go_roundw
          case rel => exact ⟨k2 + 1, hlt2, by go_num, (HBL.out.setCell (by exact hgg) _).setCell (by exact hgg) _, fun hn => by obtain ⟨g', e, h3, h4⟩ := hsG.out hn; exact ⟨g', e, h3, (h4.set _ _).set _ _⟩, fun hn => by obtain ⟨g', e, h3, h4⟩ := hsR.out hn; exact ⟨g', e, h3, (h4.set _ _).set _ _⟩⟩
          case measure => simp [intOf]; omega
        · have b2r : Below w2.heap.size w2 wr := (hb3.trans (b38.mono (by omega))).trans hbl
          have hbw : Below w.heap.size w wr := (((bl_alloc (Below.refl _ _) _).trans (hb23.mono (by omega))).trans (b38.mono (by omega))).trans (hbl.mono (by omega))
          have hzr : g0 < wr.heap.size := by have := b2r.size; omega
          clear hbl h1 h2
          go_wp2_with (fail)
          refine (same_any (some ⟨g0, 0, none⟩) A c0 c l _ (C_of_RdW (hr0.below b2r)) (by omega) (C_of_RdW (HR.out.below hbw)) hc).mono ?_
          rintro e w9 ⟨rfl, hb9⟩
          have g77' := (hb9.cell (p := ⟨g0, l.length * 2, none⟩) hzr).trans ((b2r.cell (p := ⟨g0, l.length * 2, none⟩) hgz).trans g77)
          have hzq : g0 < w9.heap.size := by have := hb9.size; omega
          have h1c : decide (l.length + 1 ≤ c0) = true := by simp; omega
          go_wp2_with (fail)
          refine (awake_any _).mono ?_
          rintro e w10 ⟨rfl, hb10⟩
          go_wp2
          go_ret
          exact ⟨rfl, bl_then (bl_then hbw hb9) hb10⟩
theorem wmerge_far (A : Option Addr) (c : Nat) (l : List (Int × Int)) (x1 x2 : Int) (w : World) (hr : RdW w w.heap.size A l) (hn : 200 < l.length) :
    Calls Try.prog 4 #[.slice A l.length c, .agg #[.int .i64 x1, .int .i64 x2]] w fun e w' => e = .returned (.bool true) ∧ Below w.heap.size w w' := by
  have hml := hr.1
  clear hr
  go_enter Try.func4, Try.ntmps4
  go_wp2_with (fail)
  refine (awake_any _).mono ?_
  rintro e w1 ⟨rfl, hb1⟩
  go_wp2
  go_ret
  refine ⟨rfl, ?_⟩
  repeat first | exact Below.refl _ _ | refine Below.drew ?_ | refine bl_alloc ?_ _ | refine bl_then ?_ hb1
theorem merge_walk (A : Option Addr) (c : Nat) (l : List (Int × Int)) (x1 x2 : Int) (w : World) (hr : RdW w w.heap.size A l ∧ l.length ≤ c ∧ (A = none → c = 0)) (h1 : (Lit.int .i64 x1).wf = true) (h2 : (Lit.int .i64 x2).wf = true) :
    Calls Try.prog 4 #[.slice A l.length c, .agg #[.int .i64 x1, .int .i64 x2]] w fun e w' => e = .returned (.bool true) ∧ Below w.heap.size w w' := by
  by_cases hn : 200 < l.length
  · exact wmerge_far A c l x1 x2 w hr.1 hn
  · exact wmerge A c l x1 x2 w hr.1 hr.2.1 hr.2.2 (by omega)
end Go.Proofs.Ytgpmceimhfkncaa
