/- The walk of SharesTells. Conditions: as each theorem states them. -/
import Derived.Test.YtmalcekbhnkfgaaK5
import Derived.Test.YtmalcekbhnkfgaaJ0
import Derived.Test.YtmalcekbhnkfgaaK1
import Derived.Test.YtmalcekbhnkfgaaK2
import Derived.Test.YtmalcekbhnkfgaaG1
import Derived.Test.YtmalcekbhnkfgaaF2
import Derived.Test.YtmalcekbhnkfgaaC1
namespace Go.Proofs.Ytmalcekbhnkfgaa
open Go.RowKit Go.Maps Go.Shelf
set_option linter.unusedVariables false
set_option linter.unusedSimpArgs false

section
open Go.ChangeShapes Go.WideShapes Go.Deep Go.Joins
variable {H : Type} {enc : TypeId × Value → H} {w : World} {base : Nat} {spare : Nat → Bool} {held : Bool} {r : Reach} {b0 : Nat}
theorem open_none38 {fuel : Nat} {A : Option Addr} {n c : Nat} {y : DataW H × List MemPlace} (h : DataW.trod enc Try.prog w base spare held fuel 38 [.slice A n c] = some y) : A = none → c = 0 := by
  intro hA
  rcases open_slice und38 h with ⟨h0, _⟩ | ⟨a', len, cap, m, k, D, PP, h0, _⟩
  · simp at h0
    exact h0.2.2
  · simp at h0
    rw [hA] at h0
    cases h0.1
theorem open_u64s2 {v : Value} {d : DataW H} {ps : List MemPlace} (hv : Value.okWide Try.prog w r b0 38 v) (h : DataW.Trod enc Try.prog w base spare held 38 v d ps) :
    ∃ A c l, v = .slice A (List.length (α := Int) l) c ∧ RdI w w.heap.size A l ∧ l.length ≤ c ∧ l.length ≤ maxLen ∧ (A = none → c = 0) := by
  obtain ⟨A, c, l, rfl, h1, h2, h3⟩ := open_u64s hv h
  obtain ⟨fuel, hf⟩ := h
  exact ⟨A, c, l, rfl, h1, h2, h3, open_none38 hf⟩
end
/-- The own row of numbers as a block of numbers. -/
theorem rowI_own {w : World} {B : Nat} {v : Value} {l : List Int} (h : w.ownsRow B 23 1 v l.length (icells l)) :
    ∃ A c, v = .slice A l.length c ∧ (0 < l.length → ∃ g, A = some ⟨g, 0, none⟩ ∧ B ≤ g ∧ RowI w g l.length (fun i => l.getD i 0)) := by
  rcases own_form h with ⟨rfl, h0⟩ | ⟨g, c, rfl, _⟩
  · exact ⟨none, 0, by rw [h0], fun hn => by omega⟩
  · refine ⟨_, c, rfl, fun hn => ⟨g, rfl, own_ge h g rfl, own_lt h g rfl, fun i hi => ?_⟩⟩
    have e : (icells l)[i]? = some (.int .u64 (l.getD i 0)) := by
      unfold icells
      rw [List.getElem?_map, List.getElem?_eq_getElem hi, getI hi]
      rfl
    exact own_cell h _ _ e
theorem RowI.other {w : World} {b n : Nat} {z : Nat → Int} (h : RowI w b n z) {b' : Nat} (hne : b' ≠ b) (i : Nat) (v : Value) : RowI (w.setCell ⟨b', i, none⟩ v) b n z := by
  refine ⟨by simp [World.setCell]; exact h.1, fun j hj => ⟨?_, ?_⟩⟩
  · rw [setc_ne w b b' j i v hne]
    exact (h.2 j hj).1
  · rw [World.frozen?_setCell]
    exact (h.2 j hj).2
set_option maxRecDepth 100000 in
set_option maxHeartbeats 16000000 in
theorem tells_small (A : Option Addr) (n c : Nat) (AS : Option Addr) (ns cs : Nat) (l : List Pt) (ss : List Int) (x : Sh) (W : World) (hl : l.length = n) (hsl : ss.length = ns)
    (hA : RdP W W.heap.size A l) (hS : RdI W W.heap.size AS ss) (hns : ns ≤ cs) (hno : AS = none → cs = 0) :
    Calls Try.prog 5 #[.slice A n c, .slice AS ns cs, shV x] W fun e W' => e = .returned (.bool true) ∧ Below W.heap.size W W' := by
  have HLN := Lib.hid hl
  have HA := Lib.hid hA
  have HSL := Lib.hid hsl
  have HS := Lib.hid hS
  have HNO := Lib.hid hno
  have HNS := Lib.hid hns
  have HG := Lib.hid (fun (w' : World) (h : Below W.heap.size W w') => great_any A c l w' ((hA.below h).more h.size (Nat.le_refl _)))
  have HC := Lib.hid (fun (w' : World) (h : Below W.heap.size W w') => counts_any A c l w' ((hA.below h).more h.size (Nat.le_refl _)) (cnt_len l))
  have HRC := Lib.hid (fun (w' : World) (h : Below W.heap.size W w') => rcounts_any A c l w' ((hA.below h).more h.size (Nat.le_refl _)))
  have HK := Lib.hid (fun (w' : World) (h : Below W.heap.size W w') => known_any A c l x.tb x.sz x.sm w' ((hA.below h).more h.size (Nat.le_refl _)))
  have HRK := Lib.hid (fun (w' : World) (h : Below W.heap.size W w') (h3 : l.length ≤ 1000000) => rknown_any A c l x.tb x.sz x.sm w' ((hA.below h).more h.size (Nat.le_refl _)) h3)
  have HLO := Lib.hid (fun (w' : World) (h : Below W.heap.size W w') (h3 : ns ≤ 1000000) (A2 : Option Addr) (c2 : Nat) (h4 : RdI w' w'.heap.size A2 ss) => loose_any A c l A2 ns c2 ss w' ((hA.below h).more h.size (Nat.le_refl _)) h4 hsl h3)
  have HRL := Lib.hid (fun (w' : World) (h : Below W.heap.size W w') (h3 : ns ≤ 1000000) => rloose_any A c l AS ns cs ss w' ((hA.below h).more h.size (Nat.le_refl _)) ((hS.below h).more h.size (Nat.le_refl _)) hsl h3)
  rw [hl] at HG HC HRC HK HRK HLO HRL
  clear hl hA hsl hS hno hns
  unfold shV
  go_enter Try.func5, Try.ntmps5
  go_wp2_with (fail)
  have bX := BoxS.new W x
  have hb0 : Below W.heap.size W (W.alloc (Obj.cells #[.int .u64 x.tb, .int .i64 x.sz, .int .u32 x.sm, .int .u64 x.nm] 36)) := bl_alloc (Below.refl _ _) _
  have hs0 : (W.alloc (Obj.cells #[.int .u64 x.tb, .int .i64 x.sz, .int .u32 x.sm, .int .u64 x.nm] 36)).heap.size = W.heap.size + 1 := by simp
  generalize (W.alloc (Obj.cells #[.int .u64 x.tb, .int .i64 x.sz, .int .u32 x.sm, .int .u64 x.nm] 36)) = w1 at *
  have HB1 := Lib.hid hb0
  clear hb0
  refine (HG.out w1 HB1.out).mono ?_
  rintro e w' ⟨⟨b, rfl, hsm⟩, rfl⟩
  cases b with
  | true =>
    clear hsm
    go_wp2_with (go_at_call 11; refine (awake_any _).mono ?_; rintro e w3 ⟨rfl, hb3⟩)
    go_ret
    exact ⟨rfl, HB1.out.trans (hb3.mono (by omega))⟩
  | false =>
    have HSM := Lib.hid (hsm rfl)
    clear hsm
    obtain ⟨x0, x1, x2, x3⟩ := bX.cells
    have BX := Lib.hid bX
    clear bX
    have hxl : W.heap.size < w1.heap.size := by omega
    have HS0 := Lib.hid hs0
    clear hs0
    by_cases h3 : ns ≤ 300
    · have h3i : ¬ (300 : Int) < (ns : Int) := by omega
      have h3d : decide ((300 : Int) < (ns : Int)) = false := decide_eq_false h3i
      go_wp2_with ((at_builtin; refine Hid.out ?_))
      refine Lib.hid ?_
      have hb2 : Below w1.heap.size w1 (w1.alloc (Obj.cells #[] 23)) := (Below.refl w1.heap.size w1).alloc (Nat.le_refl _) _
      have HO2 : Hid ((w1.alloc (Obj.cells #[] 23)).ownsRow w1.heap.size 23 1 (.slice (some ⟨w1.heap.size, 0, none⟩) 0 0) 0 []) := Lib.hid (World.ownsRow_made (base := w1.heap.size) (e := 23) (size := 1) w1 #[] 0 (Nat.le_refl _) (by decide) rfl)
      have HB2 := Lib.hid hb2
      clear hb2
      generalize (w1.alloc (Obj.cells #[] 23)) = w2 at *
      have HB02 := Lib.hid (HB1.out.trans (HB2.out.mono HB1.out.size))
      have HS2 := Lib.hid (HS.out.below HB02.out)
      refine wpList_append_i _ (by rfl) _ _ rfl w1.heap.size 0 _ [] rfl HO2.out AS ns cs (icells ss) (by rw [icells, List.length_map]; exact HSL.out) rfl ?_ (by simp [icells, Value.oneCell']) (fun h => ⟨HNO.out h, by have := HNO.out h; have := HNS.out; omega⟩) (by omega) HB2.out.size ?_
      · intro ad had j u hu
        obtain ⟨hj, rfl⟩ := List.getElem?_eq_some_iff.1 hu
        have hj' : j < ss.length := by simpa [icells] using hj
        obtain ⟨b, off, e, hb, _, hc⟩ := HS2.out.1 (by omega)
        rw [had] at e
        cases e
        rw [show (icells ss)[j] = .int .u64 (ss.getD j 0) by rw [getI hj']; simp [icells]]
        rw [show (⟨b, off, none⟩ : Addr).add j = ⟨b, off + j, none⟩ by unfold Addr.add; split <;> simp_all]
        exact hc j hj'
      intro v3 w3 hown3 hg3
      rw [Nat.zero_add, List.nil_append] at hown3
      have hb13 : Below w1.heap.size w1 w3 := HB2.out.grown hg3 HB2.out.size (own_ge HO2.out)
      rw [← HSL.out] at hown3
      obtain ⟨A3, c3, rfl, hr3⟩ := rdI_own hown3 HS.out.2
      rw [HSL.out]
      have HR3 := Lib.hid hr3
      have HB3 := Lib.hid (HB1.out.trans (hb13.mono HB1.out.size))
      have hs3 := hb13.size
      have x0 := (hb13.cell (p := ⟨W.heap.size, 0, none⟩) hxl).trans x0
      have x1 := (hb13.cell (p := ⟨W.heap.size, 1, none⟩) hxl).trans x1
      have x2 := (hb13.cell (p := ⟨W.heap.size, 2, none⟩) hxl).trans x2
      have HX0 := Lib.hid x0
      have HX1 := Lib.hid x1
      have HX2 := Lib.hid x2
      clear hown3 hg3 hr3 hb13 HO2 HS2 x0 x1 x2
      go_wp2_with ((go_at_call 20; refine Hid.out ?_))
      refine Lib.hid ?_
      refine (HLO.out w3 HB3.out (by omega) A3 c3 HR3.out).mono ?_
      rintro e w4 ⟨v4, rfl, hown4, hb4⟩
      obtain ⟨X, hX⟩ : ∃ X, notIn (cntL l) ss = X := ⟨_, rfl⟩
      have hXl : X.length ≤ ns := by rw [← hX, ← HSL.out]; exact notIn_length (cntL l) ss
      have hXw : ∀ y ∈ X, (Lit.int .u64 y).wf = true := fun y hy => HS.out.2 y (by rw [← hX] at hy; exact (notIn_mem hy).1)
      rw [hX] at hown4
      obtain ⟨A4, c4, rfl, hr4⟩ := rowI_own hown4
      have HR4 := Lib.hid hr4
      have HB34 := Lib.hid hb4
      have HB4 := Lib.hid (HB3.out.trans (hb4.mono HB3.out.size))
      have hs4 := hb4.size
      clear hown4 hr4 hb4
      go_wp2_with ((go_at_call 21; refine Hid.out ?_))
      refine Lib.hid ?_
      refine (HRL.out w4 HB4.out (by omega)).mono ?_
      rintro e w5 ⟨v5, rfl, hown5, hb5⟩
      rw [hX] at hown5
      obtain ⟨A5, c5, rfl, hr5⟩ := rowI_own hown5
      have HR5 := Lib.hid hr5
      have HB45 := Lib.hid hb5
      have HB35 := Lib.hid (HB34.out.trans (hb5.mono hs4))
      have HB5 := Lib.hid (HB4.out.trans (hb5.mono HB4.out.size))
      have hs5 := hb5.size
      clear hown5 hr5 hb5
      obtain ⟨nx, hnx⟩ : ∃ nx, X.length = nx := ⟨_, rfl⟩
      have HNX := Lib.hid hnx
      have HX := Lib.hid hX
      rw [hnx] at hXl
      rw [hnx]
      rw [hnx] at HR4 HR5
      clear hX hnx hXw
      have HR4L : Hid (0 < nx → ∃ g, A4 = some ⟨g, 0, none⟩ ∧ w3.heap.size ≤ g ∧ g < w4.heap.size ∧ RowI w5 g nx (fun i => X.getD i 0)) := Lib.hid (fun h => by
        obtain ⟨g, e, hg, hr⟩ := HR4.out h
        exact ⟨g, e, hg, hr.1, hr.below HB45.out⟩)
      go_wp2_with (fail)
      go_loopw [10] (fun vi wr => ∃ (i : Nat) (z : Nat → Int), i ≤ nx ∧ vi = .int .i64 i ∧ Below w3.heap.size w3 wr ∧ w5.heap.size ≤ wr.heap.size ∧ (0 < nx → ∃ g, A5 = some ⟨g, 0, none⟩ ∧ w4.heap.size ≤ g ∧ g < w5.heap.size ∧ RowI wr g nx (fun i => X.getD i 0)) ∧ (0 < nx → ∃ g, A4 = some ⟨g, 0, none⟩ ∧ w3.heap.size ≤ g ∧ g < w4.heap.size ∧ RowI wr g nx z) ∧ ∀ j, i ≤ j → z j = X.getD j 0) (fun i _ => nx - (intOf i).toNat)
      case atStart => exact ⟨0, _, Nat.zero_le _, rfl, HB35.out, Nat.le_refl _, fun h => by
        obtain ⟨g, e, hg, hr⟩ := HR5.out h
        exact ⟨g, e, hg, hr.1, hr⟩, HR4L.out, fun j _ => rfl⟩
      case round =>
        obtain ⟨i, z, hin, rfl, hbl, hw5, hq5, hq4, hz⟩ := hrel
        have HBL := Lib.hid hbl
        have HQ5 := Lib.hid hq5
        have HQ4 := Lib.hid hq4
        have HZ := Lib.hid hz
        have hws := hbl.size
        clear hbl hq5 hq4 hz
        by_cases hi : i < nx
        · have hi0 : (0 : Int) ≤ (i : Int) := by omega
          have hi1 : (i : Int) < (nx : Int) := by omega
          obtain ⟨g5, rfl, hg5, hg5u, hr5⟩ := HQ5.out (by omega)
          obtain ⟨g4, rfl, hg4, hg4u, hr4⟩ := HQ4.out (by omega)
          have a0 := (hr4.2 i hi).1
          have f0 := (hr4.2 i hi).2
          have b0 := (hr5.2 i hi).1
          have hz0 := HZ.out i (Nat.le_refl _)
          rw [hz0] at a0
          obtain ⟨y, hy⟩ : ∃ y, X.getD i 0 = y := ⟨_, rfl⟩
          dsimp only at b0
          rw [hy] at a0 b0
          have hne45 : g4 ≠ g5 := by omega
          have hgw5 : g5 < wr.heap.size := hr5.1
          have hgw4 : g4 < wr.heap.size := hr4.1
          have rq0 := ext_cell a0
          have rq1 := ext_cell b0
          have HR4I := Lib.hid hr4
          have HR5I := Lib.hid hr5
          clear hr4 hr5 hz0 hy
          go_wp2_with (fail)
          refine wp_region_ext (by kernel_rfl) (by kernel_rfl) ?_
          repeat (first | go_big_quiet_step (fail))
          refine wpQuiet_nil ?_
          rintro wq ⟨⟨_, hbx⟩, rfl⟩
          have hwq := hbx.size
          have hr4 := HR4I.out.below hbx
          have hr5 := HR5I.out.below hbx
          have a0 := (hr4.2 i hi).1
          have f0 := (hr4.2 i hi).2
          have hgw4 : g4 < wq.heap.size := hr4.1
          have HNX4 : Hid (RowI (wq.setCell ⟨g4, i, none⟩ (.int .u64 0)) g4 nx (fun j => if j = i then 0 else z j)) := Lib.hid (hr4.set hi 0)
          have HNX5 : Hid (RowI (wq.setCell ⟨g4, i, none⟩ (.int .u64 0)) g5 nx (fun i => X.getD i 0)) := Lib.hid (hr5.other hne45 i _)
          have HNB : Hid (Below w3.heap.size w3 (wq.setCell ⟨g4, i, none⟩ (.int .u64 0))) := Lib.hid ((HBL.out.trans (hbx.mono hws)).setCell (by dsimp only; omega) _)
          have HNS5 : Hid (w5.heap.size ≤ (wq.setCell ⟨g4, i, none⟩ (.int .u64 0)).heap.size) := Lib.hid (by simp [World.setCell]; omega)
          clear hr4 hr5 hbx
          go_wp2_with (fail)
          go_roundw
          case rel => exact ⟨i + 1, _, by omega, by first | rfl | (push_cast; rfl) | go_num, HNB.out, HNS5.out, fun _ => ⟨g5, rfl, hg5, hg5u, HNX5.out⟩, fun _ => ⟨g4, rfl, hg4, hg4u, HNX4.out⟩, fun j hj => by rw [if_neg (by omega)]; exact HZ.out j (by omega)⟩
          case measure => simp [intOf]; omega
        · obtain rfl : i = nx := by omega
          have HBr := Lib.hid (HB3.out.trans (HBL.out.mono HB3.out.size))
          have HR3r := Lib.hid (HR3.out.below HBL.out)
          have HS3r := Lib.hid (HS.out.below HBr.out)
          have x0 := (HBL.out.cell (p := ⟨W.heap.size, 0, none⟩) (Nat.lt_of_lt_of_le hxl hs3)).trans HX0.out
          have x1 := (HBL.out.cell (p := ⟨W.heap.size, 1, none⟩) (Nat.lt_of_lt_of_le hxl hs3)).trans HX1.out
          have x2 := (HBL.out.cell (p := ⟨W.heap.size, 2, none⟩) (Nat.lt_of_lt_of_le hxl hs3)).trans HX2.out
          clear HQ4 HQ5 HZ
          obtain ⟨w6, rfl⟩ : ∃ w6, w6 = wr := ⟨_, rfl⟩
          go_wp2_with (fail)
          go_loopw [11] (fun vi wq => ∃ k : Nat, k ≤ ns ∧ vi = .int .i64 k ∧ Below w6.heap.size w6 wq) (fun k _ => ns - (intOf k).toNat)
          case atStart => exact ⟨0, Nat.zero_le _, rfl, Below.refl _ _⟩
          case round =>
            obtain ⟨k, hkn, rfl, hbl⟩ := hrel
            have HBQ := Lib.hid hbl
            have hwsq := hbl.size
            clear hbl
            by_cases hk : k < ns
            · have hk0 : (0 : Int) ≤ (k : Int) := by omega
              have hk1 : (k : Int) < (ns : Int) := by omega
              obtain ⟨b3, off3, rfl, hb3, _, hc3⟩ := HR3r.out.1 (by rw [HSL.out]; omega)
              obtain ⟨bs, offs, rfl, hbs, _, hcs⟩ := HS3r.out.1 (by rw [HSL.out]; omega)
              have a0 := hc3 k (by rw [HSL.out]; exact hk)
              have b0 := hcs k (by rw [HSL.out]; exact hk)
              obtain ⟨y, hy⟩ : ∃ y, ss.getD k 0 = y := ⟨_, rfl⟩
              rw [hy] at a0 b0
              have hwr := HBr.out.size
              have a0 := (HBQ.out.cell (p := ⟨b3, off3 + k, none⟩) (Nat.lt_of_lt_of_le hb3 hws)).trans a0
              have b0 := (HBQ.out.cell (p := ⟨bs, offs + k, none⟩) (Nat.lt_of_lt_of_le hbs hwr)).trans b0
              have rq0 := ext_cell a0
              have rq1 := ext_cell b0
              have hb3w : b3 < wr.heap.size := by omega
              have hbsw : bs < wr.heap.size := by omega
              clear hy hc3 hcs
              go_wp2_with (fail)
              refine wp_region_ext (by kernel_rfl) (by kernel_rfl) ?_
              repeat (first | go_big_quiet_step (fail))
              refine wpQuiet_nil ?_
              rintro wq ⟨⟨_, hbx⟩, rfl⟩
              have HBX := Lib.hid (HBQ.out.trans (hbx.mono hwsq))
              clear hbx
              go_wp2_with (fail)
              go_roundw
              case rel => exact ⟨k + 1, by omega, by first | rfl | (push_cast; rfl) | go_num, HBX.out⟩
              case measure => simp [intOf]; omega
            · obtain rfl : k = ns := by omega
              have HBE := Lib.hid (HBr.out.trans (HBQ.out.mono HBr.out.size))
              have hn20 : n ≤ 1000000 := by
                have := HSM.out.1
                rw [HLN.out] at this
                omega
              have x0 := (HBQ.out.cell (p := ⟨W.heap.size, 0, none⟩) (Nat.lt_of_lt_of_le hxl (by omega))).trans x0
              have x1 := (HBQ.out.cell (p := ⟨W.heap.size, 1, none⟩) (Nat.lt_of_lt_of_le hxl (by omega))).trans x1
              have x2 := (HBQ.out.cell (p := ⟨W.heap.size, 2, none⟩) (Nat.lt_of_lt_of_le hxl (by omega))).trans x2
              have hxr : W.heap.size < wr.heap.size := by omega
              go_wp2_with ((go_at_call 22; refine Hid.out ?_))
              refine Lib.hid ?_
              refine (HK.out wr HBE.out).mono ?_
              rintro e w7 ⟨rfl, hb7⟩
              have hs7 := hb7.size
              have x0 := (hb7.cell (p := ⟨W.heap.size, 0, none⟩) hxr).trans x0
              have x1 := (hb7.cell (p := ⟨W.heap.size, 1, none⟩) hxr).trans x1
              have x2 := (hb7.cell (p := ⟨W.heap.size, 2, none⟩) hxr).trans x2
              have HB7 := Lib.hid (HBE.out.trans (hb7.mono (by omega)))
              obtain ⟨f, qb, hfq⟩ : ∃ f qb, knownL l x.tb x.sz x.sm = (f, qb) := ⟨_, _, rfl⟩
              have HRK7 := HRK.out
              rw [hfq] at HRK7
              rw [hfq]
              dsimp only at HRK7 ⊢
              have HRK8 := Lib.hid HRK7
              clear hb7 hfq HRK7 HK HRK
              unfold shV
              have hx7 : W.heap.size < w7.heap.size := by omega
              go_wp2_with ((go_at_call 23; refine Hid.out ?_))
              refine Lib.hid ?_
              have bF := BoxS.new w7 f
              have hb8 : Below w7.heap.size w7 (w7.alloc (Obj.cells #[.int .u64 f.tb, .int .i64 f.sz, .int .u32 f.sm, .int .u64 f.nm] 36)) := bl_alloc (Below.refl _ _) _
              have hs8 : (w7.alloc (Obj.cells #[.int .u64 f.tb, .int .i64 f.sz, .int .u32 f.sm, .int .u64 f.nm] 36)).heap.size = w7.heap.size + 1 := by simp
              generalize (w7.alloc (Obj.cells #[.int .u64 f.tb, .int .i64 f.sz, .int .u32 f.sm, .int .u64 f.nm] 36)) = w8 at *
              have HB8 := Lib.hid (HB7.out.trans (hb8.mono HB7.out.size))
              refine (HRK8.out w8 HB8.out hn20).mono ?_
              rintro e w9 ⟨rfl, hb9⟩
              have hs9 := hb9.size
              have BF9 : BoxS w9 w7.heap.size f := bF.kw hb9 (by omega)
              have HB9 := Lib.hid (HB8.out.trans (hb9.mono HB8.out.size))
              have HW9 := Lib.hid hb9
              have hf9 : w7.heap.size < w9.heap.size := by omega
              clear bF hb8 hs8 hb9
              obtain ⟨f0, f1, f2, f3⟩ := BF9.cells
              have HBF := Lib.hid BF9
              clear BF9 x0 x1 x2 HRK8
              unfold shV
              go_wp2_with ((go_at_call 19; refine Hid.out ?_))
              refine Lib.hid ?_
              have hb10 : Below w9.heap.size w9 (w9.alloc (Obj.cells #[.int .u64 f.tb, .int .i64 f.sz, .int .u32 f.sm, .int .u64 f.nm] 36)) := bl_alloc (Below.refl _ _) _
              generalize (w9.alloc (Obj.cells #[.int .u64 f.tb, .int .i64 f.sz, .int .u32 f.sm, .int .u64 f.nm] 36)) = w10 at *
              have HB10 := Lib.hid (HB9.out.trans (hb10.mono HB9.out.size))
              clear hb10 f0 f1 f2 f3
              refine (HC.out w10 HB10.out).mono ?_
              rintro e w11 ⟨v11, m1, z1, rfl, hm1, hk1, hown1, hb11⟩
              obtain ⟨B1, d1, rfl, hq1⟩ := CntR.of_own hown1
              have HB11 := Lib.hid (HB10.out.trans (hb11.mono HB10.out.size))
              have HK1 := Lib.hid hk1
              have HQ1 := Lib.hid hq1
              clear hown1 hb11 hk1 hq1
              go_wp2_with ((go_at_call 25; refine Hid.out ?_))
              refine Lib.hid ?_
              refine (HRC.out w11 HB11.out).mono ?_
              rintro e w12 ⟨v12, m2, z2, rfl, hm2, hk2, hown2, hb12⟩
              obtain ⟨B2, d2, rfl, hq2⟩ := CntR.of_own hown2
              have HB12 := Lib.hid (HB11.out.trans (hb12.mono HB11.out.size))
              obtain ⟨he, hzz⟩ := ckeys_same HK1.out hk2
              subst he
              have HS24 := Lib.hid (csame_any B1 B2 m1 d1 d2 z2 (cntL l) w12 hm1 ((HQ1.out.below hb12).congr hzz) hq2)
              clear hown2 hb12 hk2 hq2 hzz HK1 HQ1
              go_wp2_with ((go_at_call 24; refine Hid.out ?_))
              refine Lib.hid ?_
              refine HS24.out.mono ?_
              rintro e w13 ⟨rfl, hb13⟩
              have HB13 := Lib.hid (HB12.out.trans (hb13.mono HB12.out.size))
              clear hb13
              go_wp2_with (go_at_call 11; refine (awake_any _).mono ?_; rintro e w14 ⟨rfl, hb14⟩)
              go_ret
              exact ⟨rfl, HB13.out.trans (hb14.mono HB13.out.size)⟩
    · have h3i : (300 : Int) < (ns : Int) := by omega
      go_wp2_with (go_at_call 11; refine (awake_any _).mono ?_; rintro e w3 ⟨rfl, hb3⟩)
      go_ret
      exact ⟨rfl, HB1.out.trans (hb3.mono (by omega))⟩
theorem tells_walk (A : Option Addr) (c : Nat) (l : List Pt) (AS : Option Addr) (cs : Nat) (ss : List Int) (a b d e : Int) (W : World) (o : RdP W W.heap.size A l ∧ l.length ≤ c ∧ l.length ≤ maxLen)
    (o2 : RdI W W.heap.size AS ss ∧ ss.length ≤ cs ∧ ss.length ≤ maxLen ∧ (AS = none → cs = 0))
    (ha : (Lit.int .u64 a).wf = true) (hb : (Lit.int .i64 b).wf = true) (hd : (Lit.int .u32 d).wf = true) (he : (Lit.int .u64 e).wf = true) :
    Calls Try.prog 5 #[.slice A l.length c, .slice AS ss.length cs, .agg #[.int .u64 a, .int .i64 b, .int .u32 d, .int .u64 e]] W fun e w' => e = .returned (.bool true) ∧ Below W.heap.size W w' :=
  tells_small A l.length c AS ss.length cs l ss ⟨a, b, d, e, ha, hb, hd, he⟩ W rfl rfl o.1 o2.1 o2.2.1 o2.2.2.2
end Go.Proofs.Ytmalcekbhnkfgaa
