/- The walk of SharesKnown. Conditions: as each theorem states them. -/
import Derived.Test.YtmalcekbhnkfgaaC2
namespace Go.Proofs.Ytmalcekbhnkfgaa
open Go.RowKit Go.Maps Go.Shelf
set_option linter.unusedVariables false
set_option linter.unusedSimpArgs false

theorem fst_snd (p : Sh × Bool) : p = (p.1, p.2) := rfl
set_option maxRecDepth 100000 in
set_option maxHeartbeats 8000000 in
theorem sknown_small (A : Option Addr) (n c : Nat) (l : List Pt) (x : Sh) (W : World) (hl : l.length = n) (hA : RdP W W.heap.size A l) :
    Calls Try.prog 6 #[.slice A n c, shV x] W fun e W' => e = .returned (.bool true) ∧ Below W.heap.size W W' := by
  have HLN := Lib.hid hl
  have HA := Lib.hid hA
  have HG := Lib.hid (fun (w' : World) (h : Below W.heap.size W w') => great_any A c l w' ((hA.below h).more h.size (Nat.le_refl _)))
  have HR := Lib.hid (fun (w' : World) (h : Below W.heap.size W w') => right_any A c l w' ((hA.below h).more h.size (Nat.le_refl _)))
  have HK := Lib.hid (fun (t s m : Int) (w' : World) (h : Below W.heap.size W w') => known_any A c l t s m w' ((hA.below h).more h.size (Nat.le_refl _)))
  rw [hl] at HG HR HK
  clear hl hA
  unfold shV
  go_enter Try.func6, Try.ntmps6
  go_wp2_with (fail)
  have bX := BoxS.new W x
  have hb0 : Below W.heap.size W (W.alloc (Obj.cells #[.int .u64 x.tb, .int .i64 x.sz, .int .u32 x.sm, .int .u64 x.nm] 36)) := bl_alloc (Below.refl _ _) _
  have hs0 : (W.alloc (Obj.cells #[.int .u64 x.tb, .int .i64 x.sz, .int .u32 x.sm, .int .u64 x.nm] 36)).heap.size = W.heap.size + 1 := by simp
  generalize (W.alloc (Obj.cells #[.int .u64 x.tb, .int .i64 x.sz, .int .u32 x.sm, .int .u64 x.nm] 36)) = w1 at *
  have HB1 := Lib.hid hb0
  clear hb0
  refine (HG.out w1 HB1.out).mono ?_
  rintro e w' ⟨⟨b, rfl, hsm⟩, rfl⟩
  cases b with
  | true =>
    clear hsm
    go_wp2_with (go_at_call 11; refine (awake_any _).mono ?_; rintro e w3 ⟨rfl, hb3⟩)
    go_ret
    exact ⟨rfl, HB1.out.trans (hb3.mono (by omega))⟩
  | false =>
    have HSM := Lib.hid (hsm rfl)
    clear hsm
    obtain ⟨x0, x1, x2, x3⟩ := bX.cells
    have BX := Lib.hid bX
    clear bX
    have hxl : W.heap.size < w1.heap.size := by omega
    go_wp2_with ((go_at_call 22; refine Hid.out ?_))
    refine Lib.hid ?_
    refine (HK.out x.tb x.sz x.sm w1 HB1.out).mono ?_
    rintro e w2 ⟨rfl, hb2⟩
    have hs2 := hb2.size
    have x0 := (hb2.cell (p := ⟨W.heap.size, 0, none⟩) hxl).trans x0
    have x1 := (hb2.cell (p := ⟨W.heap.size, 1, none⟩) hxl).trans x1
    have x2 := (hb2.cell (p := ⟨W.heap.size, 2, none⟩) hxl).trans x2
    have HB2 := Lib.hid (HB1.out.trans (hb2.mono (by omega)))
    obtain ⟨f, qb, hfq⟩ : ∃ f qb, knownL l x.tb x.sz x.sm = (f, qb) := ⟨_, _, rfl⟩
    rw [hfq]
    dsimp only
    have HFQ := Lib.hid hfq
    clear hb2 hfq
    unfold shV
    cases qb with
    | false =>
      go_wp2_with ((go_at_call 16; refine Hid.out ?_))
      refine Lib.hid ?_
      have HBT : Below W.heap.size W (w2.alloc (Obj.cells #[.int .u64 f.tb, .int .i64 f.sz, .int .u32 f.sm, .int .u64 f.nm] 36)) := HB2.out.trans (bl_alloc (Below.refl _ _) _ |>.mono HB2.out.size)
      generalize (w2.alloc (Obj.cells #[.int .u64 f.tb, .int .i64 f.sz, .int .u32 f.sm, .int .u64 f.nm] 36)) = wT at *
      have HB3 := Lib.hid (HBT)
      by_cases hr : RightP l
      · have hrt := rightB_t hr
        refine (HR.out wT HB3.out).mono ?_
        rintro e w4 ⟨rfl, hb4⟩
        rw [hrt]
        have HB4 := Lib.hid (HB3.out.trans (hb4.mono HB3.out.size))
        clear hrt hb4
        rcases Nat.eq_zero_or_pos n with h0 | h0
        · subst h0
          go_wp2_with (go_at_call 11; refine (awake_any _).mono ?_; rintro e w5 ⟨rfl, hb5⟩)
          go_ret
          exact ⟨rfl, HB4.out.trans (hb5.mono HB4.out.size)⟩
        · obtain ⟨m, rfl⟩ : ∃ m, n = m + 1 := ⟨n - 1, by omega⟩
          have HKL := Lib.hid (fun f (hf : f ∈ (l.getD m zeroP).fs) => known_last HLN.out hr hf)
          obtain ⟨b, off, rfl, hb, _, hc⟩ := HA.out.1 (by rw [HLN.out]; omega)
          obtain ⟨_, a1⟩ := hc m (by rw [HLN.out]; omega)
          have hpm : l.getD m zeroP ∈ l := getP_mem (by rw [HLN.out]; omega)
          obtain ⟨hpr, hpc⟩ := HA.out.2 _ hpm
          have hp3 := HSM.out.2 _ hpm
          obtain ⟨pt, hpt⟩ : ∃ pt, l.getD m zeroP = pt := ⟨_, rfl⟩
          rw [hpt] at a1 hpr hpc hp3 HKL
          clear hpt hpm hc
          have a1 := (HB4.out.cell (p := ⟨b, off + m * 2 + 1, none⟩) hb).trans a1
          have HPR := Lib.hid hpr
          obtain ⟨pid, fs, PA, pc⟩ := pt
          dsimp only at *
          obtain ⟨k, hk⟩ : ∃ k, fs.length = k := ⟨_, rfl⟩
          rw [hk] at a1 hpc hp3
          have HFK := Lib.hid hk
          clear hpr hk hr
          have hj0 : (0 : Int) ≤ ((m + 1 : Nat) : Int) - 1 := by omega
          have hj1 : ((m + 1 : Nat) : Int) - 1 < ((m + 1 : Nat) : Int) := by omega
          have hj2 : (((m + 1 : Nat) : Int) - 1).toNat = m := by omega
          have hne : ¬ ((m + 1 : Nat) : Int) = 0 := by omega
          have hmn : (m + 1 : Nat) ≤ 20 := by have := HSM.out.1; rw [HLN.out] at this; exact this
          have hmi : ((m + 1 : Nat) : Int) ≤ 20 := by omega
          have hb4 : b < w4.heap.size := by have := HB4.out.size; omega
          obtain ⟨N, hN⟩ : ∃ N, m + 1 = N := ⟨_, rfl⟩
          rw [hN] at hj0 hj1 hj2 hne hmi
          have HN := Lib.hid hN
          rw [hN]
          rw [hN] at HK
          have hneb : ((N : Int) == 0) = false := by simpa using hne
          clear hN h0 hmn
          go_wp2_with (fail)
          go_loopw [11] (fun vi wr => ∃ i : Nat, i ≤ k ∧ vi = .int .i64 i ∧ Below W.heap.size W wr) (fun i _ => k - (intOf i).toNat)
          case atStart => exact ⟨0, Nat.zero_le _, rfl, HB4.out⟩
          case round =>
            obtain ⟨i, hik, rfl, hbl⟩ := hrel
            have HBL := Lib.hid hbl
            have hws := hbl.size
            clear hbl
            by_cases hi : i < k
            · have hi0 : (0 : Int) ≤ (i : Int) := by omega
              have hi1 : (i : Int) < (k : Int) := by omega
              obtain ⟨fb, fo, rfl, hfb, _, hfc⟩ := HPR.out (by rw [HFK.out]; omega)
              obtain ⟨y0, y1, y2, y3⟩ := hfc i (by rw [HFK.out]; exact hi)
              obtain ⟨g, hg⟩ : ∃ g, fs.getD i zeroS = g := ⟨_, rfl⟩
              have hgm : g ∈ fs := by rw [← hg]; exact getS_mem (by rw [HFK.out]; exact hi)
              have HKG := Lib.hid (HKL.out g hgm)
              rw [hg] at y0 y1 y2 y3
              have yw0 := y0
              have yw1 := y1
              have yw2 := y2
              have yw3 := y3
              have y0 := (HBL.out.cell (p := ⟨fb, fo + i * 4, none⟩) hfb).trans y0
              have y1 := (HBL.out.cell (p := ⟨fb, fo + i * 4 + 1, none⟩) hfb).trans y1
              have y2 := (HBL.out.cell (p := ⟨fb, fo + i * 4 + 2, none⟩) hfb).trans y2
              have YW0 := Lib.hid yw0
              have YW1 := Lib.hid yw1
              have YW2 := Lib.hid yw2
              have YW3 := Lib.hid yw3
              have hkw : fb < wr.heap.size := by omega
              have C3 : ∀ z, Below W.heap.size W z → z.cell? ⟨fb, fo + i * 4, none⟩ = some (.int .u64 g.tb) ∧ z.cell? ⟨fb, fo + i * 4 + 1, none⟩ = some (.int .i64 g.sz) ∧ z.cell? ⟨fb, fo + i * 4 + 2, none⟩ = some (.int .u32 g.sm) := fun z hz => ⟨(hz.cell hfb).trans yw0, (hz.cell hfb).trans yw1, (hz.cell hfb).trans yw2⟩
              clear hg hgm hfc y3 yw0 yw1 yw2 yw3
              go_wp2_with (fail)
              go_region_held3 (fun z => z.cell? ⟨fb, fo + i * 4, none⟩ = some (.int .u64 g.tb) ∧ z.cell? ⟨fb, fo + i * 4 + 1, none⟩ = some (.int .i64 g.sz) ∧ z.cell? ⟨fb, fo + i * 4 + 2, none⟩ = some (.int .u32 g.sm)) (first | exact ⟨y0, y1, y2⟩ | exact ⟨z0, z1, z2⟩ | (refine C3 _ ?_; repeat (first | exact HBL.out | exact B5.out | refine Below.drew ?_ | refine Below.alloc ?_ (by first | omega | (simp; omega)) _ | refine Below.setCell ?_ (by dsimp only; first | omega | (simp; omega)) _)))
                (first
                | (go_at_call 22; refine (HK.out _ _ _ _ ?_).mono ?_; exact (HBL.out.alloc HBL.out.size _).drew; rintro e w5 ⟨rfl, hb5⟩; have B5 := Lib.hid ((HBL.out.alloc HBL.out.size _).drew.trans (hb5.mono (by simp; omega))); have z0 := (B5.out.cell (p := ⟨fb, fo + i * 4, none⟩) hfb).trans YW0.out; have z1 := (B5.out.cell (p := ⟨fb, fo + i * 4 + 1, none⟩) hfb).trans YW1.out; have z2 := (B5.out.cell (p := ⟨fb, fo + i * 4 + 2, none⟩) hfb).trans YW2.out; have hs5 := B5.out.size; have hk5 : fb < w5.heap.size := Nat.lt_of_lt_of_le hfb B5.out.size; have bb := (BoxS.new wr.drew zeroS).kw hb5 (by simp); obtain ⟨ff0, ff1, ff2, ff3⟩ := bb.frozens; have ff0 : w5.frozen? ⟨wr.heap.size, 0, none⟩ = false := ff0; have ff1 : w5.frozen? ⟨wr.heap.size, 1, none⟩ = false := ff1; have ff2 : w5.frozen? ⟨wr.heap.size, 2, none⟩ = false := ff2; have ff3 : w5.frozen? ⟨wr.heap.size, 3, none⟩ = false := ff3; have hlt5 : wr.heap.size < w5.heap.size := bb.lt; obtain ⟨cc0, cc1, cc2, cc3⟩ := bb.cells; have cc0 : w5.cell? ⟨wr.heap.size, 0, none⟩ = some (.int .u64 0) := cc0; have cc1 : w5.cell? ⟨wr.heap.size, 1, none⟩ = some (.int .i64 0) := cc1; have cc2 : w5.cell? ⟨wr.heap.size, 2, none⟩ = some (.int .u32 0) := cc2; have cc3 : w5.cell? ⟨wr.heap.size, 3, none⟩ = some (.int .u64 0) := cc3; rw [HKG.out]; unfold shV)
                | (go_at_call 22; refine (HK.out _ _ _ _ ?_).mono ?_; exact HBL.out.drew; rintro e w5 ⟨rfl, hb5⟩; have B5 := Lib.hid (HBL.out.drew.trans (hb5.mono (show W.heap.size ≤ wr.heap.size from hws))); have z0 := (B5.out.cell (p := ⟨fb, fo + i * 4, none⟩) hfb).trans YW0.out; have z1 := (B5.out.cell (p := ⟨fb, fo + i * 4 + 1, none⟩) hfb).trans YW1.out; have z2 := (B5.out.cell (p := ⟨fb, fo + i * 4 + 2, none⟩) hfb).trans YW2.out; have hs5 := B5.out.size; have hk5 : fb < w5.heap.size := Nat.lt_of_lt_of_le hfb B5.out.size; rw [HKG.out]; unfold shV))
              · have bE := BoxS.new w5 g
                have hBE := Lib.hid (B5.out.alloc B5.out.size (Obj.cells #[.int .u64 g.tb, .int .i64 g.sz, .int .u32 g.sm, .int .u64 g.nm] 36))
                clear hb5
                generalize (w5.alloc (Obj.cells #[.int .u64 g.tb, .int .i64 g.sz, .int .u32 g.sm, .int .u64 g.nm] 36)) = wE at *
                generalize w5.heap.size = bk at *
                have t0 := (hBE.out.cell (p := ⟨fb, fo + i * 4, none⟩) hfb).trans YW0.out
                have t1 := (hBE.out.cell (p := ⟨fb, fo + i * 4 + 1, none⟩) hfb).trans YW1.out
                have t2 := (hBE.out.cell (p := ⟨fb, fo + i * 4 + 2, none⟩) hfb).trans YW2.out
                have t3 := (hBE.out.cell (p := ⟨fb, fo + i * 4 + 3, none⟩) hfb).trans YW3.out
                obtain ⟨v0, v1, v2, v3⟩ := bE.cells
                have t0 := ext_cell t0
                have t1 := ext_cell t1
                have t2 := ext_cell t2
                have t3 := ext_cell t3
                have v0 := ext_cell v0
                have v1 := ext_cell v1
                have v2 := ext_cell v2
                have v3 := ext_cell v3
                clear y0 y1 y2 z0 z1 z2 bE C3
                go_wp2_with (fail)
                refine wp_region_ext (by kernel_rfl) (by kernel_rfl) ?_
                repeat (go_big_quiet_step (fail))
                refine wpQuiet_nil ?_
                rintro w6 ⟨⟨_, hb6⟩, rfl⟩
                have HB6 := Lib.hid (hBE.out.trans (hb6.mono hBE.out.size))
                clear hb6
                go_wp2_with (fail)
                go_roundw
                case rel => exact ⟨i + 1, by omega, by first | rfl | (push_cast; rfl) | go_num, HB6.out⟩
                case measure => simp [intOf]; omega
              · have bE := BoxS.set4 bb g
                have hBE := Lib.hid ((((B5.out.setCell (p := ⟨wr.heap.size, 0, none⟩) hws (.int .u64 g.tb)).setCell (p := ⟨wr.heap.size, 1, none⟩) hws (.int .i64 g.sz)).setCell (p := ⟨wr.heap.size, 2, none⟩) hws (.int .u32 g.sm)).setCell (p := ⟨wr.heap.size, 3, none⟩) hws (.int .u64 g.nm))
                clear hb5 ff0 ff1 ff2 ff3 cc0 cc1 cc2 cc3 bb
                have bE : BoxS ((((w5.setCell ⟨wr.heap.size, 0, none⟩ (.int .u64 g.tb)).setCell ⟨wr.heap.size, 1, none⟩ (.int .i64 g.sz)).setCell ⟨wr.heap.size, 2, none⟩ (.int .u32 g.sm)).setCell ⟨wr.heap.size, 3, none⟩ (.int .u64 g.nm)) wr.heap.size g := bE
                generalize ((((w5.setCell ⟨wr.heap.size, 0, none⟩ (.int .u64 g.tb)).setCell ⟨wr.heap.size, 1, none⟩ (.int .i64 g.sz)).setCell ⟨wr.heap.size, 2, none⟩ (.int .u32 g.sm)).setCell ⟨wr.heap.size, 3, none⟩ (.int .u64 g.nm)) = wE at *
                have t0 := (hBE.out.cell (p := ⟨fb, fo + i * 4, none⟩) hfb).trans YW0.out
                have t1 := (hBE.out.cell (p := ⟨fb, fo + i * 4 + 1, none⟩) hfb).trans YW1.out
                have t2 := (hBE.out.cell (p := ⟨fb, fo + i * 4 + 2, none⟩) hfb).trans YW2.out
                have t3 := (hBE.out.cell (p := ⟨fb, fo + i * 4 + 3, none⟩) hfb).trans YW3.out
                obtain ⟨v0, v1, v2, v3⟩ := bE.cells
                have t0 := ext_cell t0
                have t1 := ext_cell t1
                have t2 := ext_cell t2
                have t3 := ext_cell t3
                have v0 := ext_cell v0
                have v1 := ext_cell v1
                have v2 := ext_cell v2
                have v3 := ext_cell v3
                clear y0 y1 y2 z0 z1 z2 bE C3
                go_wp2_with (fail)
                refine wp_region_ext (by kernel_rfl) (by kernel_rfl) ?_
                repeat (go_big_quiet_step (fail))
                refine wpQuiet_nil ?_
                rintro w6 ⟨⟨_, hb6⟩, rfl⟩
                have HB6 := Lib.hid (hBE.out.trans (hb6.mono hBE.out.size))
                clear hb6
                go_wp2_with (fail)
                go_roundw
                case rel => exact ⟨i + 1, by omega, by first | rfl | (push_cast; rfl) | go_num, HB6.out⟩
                case measure => simp [intOf]; omega
            · have hine : i = k := by omega
              subst hine
              have hirr : ¬ (i : Int) < (i : Int) := by omega
              go_wp2_with (go_at_call 11; refine (awake_any _).mono ?_; rintro e w5 ⟨rfl, hb5⟩)
              go_ret
              exact ⟨rfl, HBL.out.trans (hb5.mono HBL.out.size)⟩
      · have hrt := rightB_f hr
        refine (HR.out wT HB3.out).mono ?_
        rintro e w4 ⟨rfl, hb4⟩
        rw [hrt]
        have HB4 := Lib.hid (HB3.out.trans (hb4.mono HB3.out.size))
        clear hrt hb4
        go_wp2_with (go_at_call 11; refine (awake_any _).mono ?_; rintro e w5 ⟨rfl, hb5⟩)
        go_ret
        exact ⟨rfl, HB4.out.trans (hb5.mono HB4.out.size)⟩
    | true =>
      obtain ⟨hRt, hfm, hk1, hk2, hk3⟩ := knownL_yes HFQ.out
      obtain ⟨xt, xs, xm, xn, xw1, xw2, xw3, xw4⟩ := x
      dsimp only at *
      subst hk1 hk2 hk3
      have HFM := Lib.hid hfm
      have bF := BoxS.new w2 f
      have hBF := HB2.out.trans (bl_alloc (Below.refl _ _) (Obj.cells #[.int .u64 f.tb, .int .i64 f.sz, .int .u32 f.sm, .int .u64 f.nm] 36) |>.mono HB2.out.size)
      have hs3 : (w2.alloc (Obj.cells #[.int .u64 f.tb, .int .i64 f.sz, .int .u32 f.sm, .int .u64 f.nm] 36)).heap.size = w2.heap.size + 1 := by simp
      have hbX : Below w2.heap.size w2 (w2.alloc (Obj.cells #[.int .u64 f.tb, .int .i64 f.sz, .int .u32 f.sm, .int .u64 f.nm] 36)) := bl_alloc (Below.refl _ _) _
      have hxl2 : W.heap.size < w2.heap.size := by omega
      have x0 := (hbX.cell (p := ⟨W.heap.size, 0, none⟩) hxl2).trans x0
      have x1 := (hbX.cell (p := ⟨W.heap.size, 1, none⟩) hxl2).trans x1
      have x2 := (hbX.cell (p := ⟨W.heap.size, 2, none⟩) hxl2).trans x2
      have hsF := HB2.out.size
      clear hRt hfm hbX
      go_wp2_with (fail)
      generalize (w2.alloc (Obj.cells #[.int .u64 f.tb, .int .i64 f.sz, .int .u32 f.sm, .int .u64 f.nm] 36)) = wF at *
      have HBF := Lib.hid hBF
      have BF := Lib.hid bF
      have hn20 : n ≤ 20 := by have := HSM.out.1; rw [HLN.out] at this; exact this
      have hxlF : W.heap.size < wF.heap.size := by omega
      have X0 := Lib.hid x0
      have X1 := Lib.hid x1
      have X2 := Lib.hid x2
      clear hBF bF x0 x1 x2
      go_loopw [7, 8] (fun vb vi wr => ∃ (i : Nat) (b : Bool), i ≤ n ∧ vb = .bool b ∧ vi = .int .i64 i ∧ (b = true ↔ f ∈ (came l i 0).map Prod.snd) ∧ Below wF.heap.size wF wr) (fun _ i _ => n - (intOf i).toNat)
      case atStart => exact ⟨0, false, Nat.zero_le _, rfl, rfl, by simp [came_zero], Below.refl _ _⟩
      case round =>
        obtain ⟨i, b, hin, rfl, rfl, hbm, hbl⟩ := hrel
        have HBM := Lib.hid hbm
        have HBL := Lib.hid hbl
        have hws := hbl.size
        clear hbm hbl
        obtain ⟨w7, hw7⟩ : ∃ w7, w7 = wr := ⟨_, rfl⟩
        subst hw7
        by_cases hi : i < n
        · have hi0 : (0 : Int) ≤ (i : Int) := by omega
          have hi1 : (i : Int) < (n : Int) := by omega
          have hil : i < l.length := by rw [HLN.out]; exact hi
          obtain ⟨pb, po, rfl, hpb, _, hpc⟩ := HA.out.1 (by omega)
          obtain ⟨_, a1⟩ := hpc i hil
          have hpm : l.getD i zeroP ∈ l := getP_mem hil
          obtain ⟨hfr, _⟩ := HA.out.2 _ hpm
          have hf3 := HSM.out.2 _ hpm
          obtain ⟨m, hm⟩ : ∃ m, (l.getD i zeroP).fs.length = m := ⟨_, rfl⟩
          rw [hm] at a1 hf3
          have HM := Lib.hid hm
          have HFR := Lib.hid hfr
          have A1 := Lib.hid a1
          have HIL := Lib.hid hil
          obtain ⟨PA, hPA⟩ : ∃ PA, (l.getD i zeroP).A = PA := ⟨_, rfl⟩
          obtain ⟨PC, hPC⟩ : ∃ PC, (l.getD i zeroP).c = PC := ⟨_, rfl⟩
          rw [hPA, hPC] at A1
          rw [hPA] at HFR
          clear hpc hpm hfr hm a1 hil hPA hPC
          have hpF : pb < wF.heap.size := by omega
          have hp7 : pb < w7.heap.size := by omega
          have a7 := ((HBF.out.trans (HBL.out.mono HBF.out.size)).cell (p := ⟨pb, po + i * 2 + 1, none⟩) hpb).trans A1.out
          go_wp2_with (fail)
          go_loopw [7, 9] (fun vb vk wr => ∃ (k : Nat) (b : Bool), k ≤ m ∧ vb = .bool b ∧ vk = .int .i64 k ∧ (b = true ↔ f ∈ (came l i k).map Prod.snd) ∧ Below wF.heap.size wF wr) (fun _ k _ => m - (intOf k).toNat)
          case atStart => exact ⟨0, b, Nat.zero_le _, rfl, rfl, HBM.out, HBL.out⟩
          case round =>
            obtain ⟨k, b', hkm, rfl, rfl, hbm2, hbl2⟩ := hrel
            have HBM2 := Lib.hid hbm2
            have HBL2 := Lib.hid hbl2
            have hws2 := hbl2.size
            clear hbm2 hbl2 a7
            have HBW := Lib.hid (HBF.out.trans (HBL2.out.mono HBF.out.size))
            have a7 := (HBW.out.cell (p := ⟨pb, po + i * 2 + 1, none⟩) hpb).trans A1.out
            have hpr : pb < wr.heap.size := by omega
            by_cases hk : k < m
            · have hk0 : (0 : Int) ≤ (k : Int) := by omega
              have hk1 : (k : Int) < (m : Int) := by omega
              have hsn := came_succ (l := l) (i := i) (k := k) (by rw [HM.out]; exact hk)
              have hkl : k < (l.getD i zeroP).fs.length := by rw [HM.out]; exact hk
              obtain ⟨fb, fo, rfl, hfb, _, hfc⟩ := HFR.out (by omega)
              obtain ⟨y0, y1, y2, y3⟩ := hfc k hkl
              obtain ⟨g, hg⟩ : ∃ g, (l.getD i zeroP).fs.getD k zeroS = g := ⟨_, rfl⟩
              rw [hg] at y0 y1 y2 y3 hsn
              have HSN := Lib.hid hsn
              have y0 := (HBW.out.cell (p := ⟨fb, fo + k * 4, none⟩) hfb).trans y0
              have y1 := (HBW.out.cell (p := ⟨fb, fo + k * 4 + 1, none⟩) hfb).trans y1
              have y2 := (HBW.out.cell (p := ⟨fb, fo + k * 4 + 2, none⟩) hfb).trans y2
              have y3 := (HBW.out.cell (p := ⟨fb, fo + k * 4 + 3, none⟩) hfb).trans y3
              have y0 := ext_cell y0
              have y1 := ext_cell y1
              have y2 := ext_cell y2
              have y3 := ext_cell y3
              have e7 := ext_cell a7
              obtain ⟨v0, v1, v2, v3⟩ := (BF.out.kw HBL2.out (by omega)).cells
              have v0 := ext_cell v0
              have v1 := ext_cell v1
              have v2 := ext_cell v2
              have v3 := ext_cell v3
              have hpx : ∀ x : Ext wr, pb < x.val.heap.size := fun x => Nat.lt_of_lt_of_le hpr x.bl.size
              clear hfc hkl hg hsn
              cases b' with
              | true =>
                have HST : Hid (f ∈ (came l i (k + 1)).map Prod.snd) := Lib.hid (by rw [HSN.out, List.map_append, List.mem_append]; exact .inl (HBM2.out.1 rfl))
                go_wp2_with (fail)
                refine wp_region_ext (by kernel_rfl) (by kernel_rfl) ?_
                repeat (go_big_quiet_step (fail))
                refine wpQuiet_nil ?_
                rintro w8 ⟨⟨_, hb8⟩, rfl⟩
                have HB8 := Lib.hid (HBL2.out.trans (hb8.mono HBL2.out.size))
                clear hb8
                go_wp2_with (fail)
                go_roundw
                case rel => exact ⟨k + 1, true, by omega, by first | trivial | rfl, by first | rfl | (push_cast; rfl) | go_num, iff_of_true (by first | rfl | trivial) HST.out, HB8.out⟩
                case measure => simp [intOf]; omega
              | false =>
                by_cases hgf : g = f
                · subst hgf
                  go_wp2_with (fail)
                  refine wp_region_ext (by kernel_rfl) (by kernel_rfl) ?_
                  repeat (go_big_quiet_step (fail))
                  refine wpQuiet_nil ?_
                  rintro w8 ⟨⟨_, hb8⟩, rfl⟩
                  have HB8 := Lib.hid (HBL2.out.trans (hb8.mono HBL2.out.size))
                  clear hb8
                  go_wp2_with (fail)
                  go_roundw
                  case rel => exact ⟨k + 1, true, by omega, by first | trivial | rfl, by first | rfl | (push_cast; rfl) | go_num, by rw [HSN.out]; simp, HB8.out⟩
                  case measure => simp [intOf]; omega
                · have hst : ¬ f ∈ (came l i (k + 1)).map Prod.snd := by
                    rw [HSN.out, List.map_append, List.mem_append, ← HBM2.out]
                    simp only [Bool.false_eq_true, false_or, List.map_cons, List.map_nil, List.mem_singleton]
                    exact fun e => hgf e.symm
                  have HST := Lib.hid hst
                  have hpt := sh_parts4 hgf
                  clear hst hgf HSN
                  obtain ⟨gt, gs, gm, gn, g5, g6, g7, g8⟩ := g
                  dsimp only at *
                  rcases hpt with hne | ⟨rfl, hne⟩ | ⟨rfl, rfl, hne⟩ | ⟨rfl, rfl, rfl, hne⟩
                  · go_wp2_with (fail)
                    refine wp_region_ext (by kernel_rfl) (by kernel_rfl) ?_
                    repeat (go_big_quiet_step (fail))
                    refine wpQuiet_nil ?_
                    rintro w8 ⟨⟨_, hb8⟩, rfl⟩
                    have HB8 := Lib.hid (HBL2.out.trans (hb8.mono HBL2.out.size))
                    clear hb8
                    go_wp2_with (fail)
                    go_roundw
                    case rel => exact ⟨k + 1, false, by omega, by first | trivial | rfl, by first | rfl | (push_cast; rfl) | go_num, iff_of_false (by simp) HST.out, HB8.out⟩
                    case measure => simp [intOf]; omega
                  · go_wp2_with (fail)
                    refine wp_region_ext (by kernel_rfl) (by kernel_rfl) ?_
                    repeat (go_big_quiet_step (fail))
                    refine wpQuiet_nil ?_
                    rintro w8 ⟨⟨_, hb8⟩, rfl⟩
                    have HB8 := Lib.hid (HBL2.out.trans (hb8.mono HBL2.out.size))
                    clear hb8
                    go_wp2_with (fail)
                    go_roundw
                    case rel => exact ⟨k + 1, false, by omega, by first | trivial | rfl, by first | rfl | (push_cast; rfl) | go_num, iff_of_false (by simp) HST.out, HB8.out⟩
                    case measure => simp [intOf]; omega
                  · go_wp2_with (fail)
                    refine wp_region_ext (by kernel_rfl) (by kernel_rfl) ?_
                    repeat (go_big_quiet_step (fail))
                    refine wpQuiet_nil ?_
                    rintro w8 ⟨⟨_, hb8⟩, rfl⟩
                    have HB8 := Lib.hid (HBL2.out.trans (hb8.mono HBL2.out.size))
                    clear hb8
                    go_wp2_with (fail)
                    go_roundw
                    case rel => exact ⟨k + 1, false, by omega, by first | trivial | rfl, by first | rfl | (push_cast; rfl) | go_num, iff_of_false (by simp) HST.out, HB8.out⟩
                    case measure => simp [intOf]; omega
                  · go_wp2_with (fail)
                    refine wp_region_ext (by kernel_rfl) (by kernel_rfl) ?_
                    repeat (go_big_quiet_step (fail))
                    refine wpQuiet_nil ?_
                    rintro w8 ⟨⟨_, hb8⟩, rfl⟩
                    have HB8 := Lib.hid (HBL2.out.trans (hb8.mono HBL2.out.size))
                    clear hb8
                    go_wp2_with (fail)
                    go_roundw
                    case rel => exact ⟨k + 1, false, by omega, by first | trivial | rfl, by first | rfl | (push_cast; rfl) | go_num, iff_of_false (by simp) HST.out, HB8.out⟩
                    case measure => simp [intOf]; omega
            · have hkk : k = m := by omega
              subst hkk
              have hirr : ¬ (k : Int) < (k : Int) := by omega
              have HNX : Hid (b' = true ↔ f ∈ (came l (i + 1) 0).map Prod.snd) := Lib.hid (by rw [HBM2.out, ← came_next HIL.out, HM.out])
              go_wp2_with (fail)
              go_roundw
              case rel => exact ⟨i + 1, b', by omega, by first | trivial | rfl, by first | rfl | (push_cast; rfl) | go_num, HNX.out, HBL2.out⟩
              case measure => simp [intOf]; omega
        · have hine : n = i := by omega
          subst hine
          have hirr : ¬ (n : Int) < (n : Int) := by omega
          have hbt : b = true := HBM.out.2 (by have := HFM.out; unfold allF at this; rwa [← came_all, HLN.out] at this)
          subst hbt
          have HB7 := Lib.hid (HBF.out.trans (HBL.out.mono HBF.out.size))
          have x0 := (HBL.out.cell (p := ⟨W.heap.size, 0, none⟩) hxlF).trans X0.out
          have x1 := (HBL.out.cell (p := ⟨W.heap.size, 1, none⟩) hxlF).trans X1.out
          have x2 := (HBL.out.cell (p := ⟨W.heap.size, 2, none⟩) hxlF).trans X2.out
          obtain ⟨v0, v1, v2, v3⟩ := (BF.out.kw HBL.out (by omega)).cells
          have hx7 : W.heap.size < w7.heap.size := by omega
          have hf7 : w2.heap.size < w7.heap.size := by omega
          go_wp2_with ((go_at_call 16; refine Hid.out ?_))
          refine Lib.hid ?_
          have HBT : Below W.heap.size W w7 := HB7.out
          obtain ⟨wT, hwT⟩ : ∃ wT, wT = w7 := ⟨_, rfl⟩
          subst hwT
          have HB3 := Lib.hid (HBT)
          by_cases hr : RightP l
          · have hrt := rightB_t hr
            refine (HR.out wT HB3.out).mono ?_
            rintro e w4 ⟨rfl, hb4⟩
            rw [hrt]
            have HB4 := Lib.hid (HB3.out.trans (hb4.mono HB3.out.size))
            clear hrt hb4
            rcases Nat.eq_zero_or_pos n with h0 | h0
            · subst h0
              go_wp2_with (go_at_call 11; refine (awake_any _).mono ?_; rintro e w5 ⟨rfl, hb5⟩)
              go_ret
              exact ⟨rfl, HB4.out.trans (hb5.mono HB4.out.size)⟩
            · obtain ⟨m, rfl⟩ : ∃ m, n = m + 1 := ⟨n - 1, by omega⟩
              have HKL := Lib.hid (fun f (hf : f ∈ (l.getD m zeroP).fs) => known_last HLN.out hr hf)
              obtain ⟨b, off, rfl, hb, _, hc⟩ := HA.out.1 (by rw [HLN.out]; omega)
              obtain ⟨_, a1⟩ := hc m (by rw [HLN.out]; omega)
              have hpm : l.getD m zeroP ∈ l := getP_mem (by rw [HLN.out]; omega)
              obtain ⟨hpr, hpc⟩ := HA.out.2 _ hpm
              have hp3 := HSM.out.2 _ hpm
              obtain ⟨pt, hpt⟩ : ∃ pt, l.getD m zeroP = pt := ⟨_, rfl⟩
              rw [hpt] at a1 hpr hpc hp3 HKL
              clear hpt hpm hc
              have a1 := (HB4.out.cell (p := ⟨b, off + m * 2 + 1, none⟩) hb).trans a1
              have HPR := Lib.hid hpr
              obtain ⟨pid, fs, PA, pc⟩ := pt
              dsimp only at *
              obtain ⟨k, hk⟩ : ∃ k, fs.length = k := ⟨_, rfl⟩
              rw [hk] at a1 hpc hp3
              have HFK := Lib.hid hk
              clear hpr hk hr
              have hj0 : (0 : Int) ≤ ((m + 1 : Nat) : Int) - 1 := by omega
              have hj1 : ((m + 1 : Nat) : Int) - 1 < ((m + 1 : Nat) : Int) := by omega
              have hj2 : (((m + 1 : Nat) : Int) - 1).toNat = m := by omega
              have hne : ¬ ((m + 1 : Nat) : Int) = 0 := by omega
              have hmn : (m + 1 : Nat) ≤ 20 := by have := HSM.out.1; rw [HLN.out] at this; exact this
              have hmi : ((m + 1 : Nat) : Int) ≤ 20 := by omega
              have hb4 : b < w4.heap.size := by have := HB4.out.size; omega
              obtain ⟨N, hN⟩ : ∃ N, m + 1 = N := ⟨_, rfl⟩
              rw [hN] at hj0 hj1 hj2 hne hmi
              have HN := Lib.hid hN
              rw [hN]
              rw [hN] at HK
              have hneb : ((N : Int) == 0) = false := by simpa using hne
              clear hN h0 hmn
              go_wp2_with (fail)
              go_loopw [11] (fun vi wr => ∃ i : Nat, i ≤ k ∧ vi = .int .i64 i ∧ Below W.heap.size W wr) (fun i _ => k - (intOf i).toNat)
              case atStart => exact ⟨0, Nat.zero_le _, rfl, HB4.out⟩
              case round =>
                obtain ⟨i, hik, rfl, hbl⟩ := hrel
                have HBL := Lib.hid hbl
                have hws := hbl.size
                clear hbl
                by_cases hi : i < k
                · have hi0 : (0 : Int) ≤ (i : Int) := by omega
                  have hi1 : (i : Int) < (k : Int) := by omega
                  obtain ⟨fb, fo, rfl, hfb, _, hfc⟩ := HPR.out (by rw [HFK.out]; omega)
                  obtain ⟨y0, y1, y2, y3⟩ := hfc i (by rw [HFK.out]; exact hi)
                  obtain ⟨g, hg⟩ : ∃ g, fs.getD i zeroS = g := ⟨_, rfl⟩
                  have hgm : g ∈ fs := by rw [← hg]; exact getS_mem (by rw [HFK.out]; exact hi)
                  have HKG := Lib.hid (HKL.out g hgm)
                  rw [hg] at y0 y1 y2 y3
                  have yw0 := y0
                  have yw1 := y1
                  have yw2 := y2
                  have yw3 := y3
                  have y0 := (HBL.out.cell (p := ⟨fb, fo + i * 4, none⟩) hfb).trans y0
                  have y1 := (HBL.out.cell (p := ⟨fb, fo + i * 4 + 1, none⟩) hfb).trans y1
                  have y2 := (HBL.out.cell (p := ⟨fb, fo + i * 4 + 2, none⟩) hfb).trans y2
                  have YW0 := Lib.hid yw0
                  have YW1 := Lib.hid yw1
                  have YW2 := Lib.hid yw2
                  have YW3 := Lib.hid yw3
                  have hkw : fb < wr.heap.size := by omega
                  have C3 : ∀ z, Below W.heap.size W z → z.cell? ⟨fb, fo + i * 4, none⟩ = some (.int .u64 g.tb) ∧ z.cell? ⟨fb, fo + i * 4 + 1, none⟩ = some (.int .i64 g.sz) ∧ z.cell? ⟨fb, fo + i * 4 + 2, none⟩ = some (.int .u32 g.sm) := fun z hz => ⟨(hz.cell hfb).trans yw0, (hz.cell hfb).trans yw1, (hz.cell hfb).trans yw2⟩
                  clear hg hgm hfc y3 yw0 yw1 yw2 yw3
                  go_wp2_with (fail)
                  go_region_held3 (fun z => z.cell? ⟨fb, fo + i * 4, none⟩ = some (.int .u64 g.tb) ∧ z.cell? ⟨fb, fo + i * 4 + 1, none⟩ = some (.int .i64 g.sz) ∧ z.cell? ⟨fb, fo + i * 4 + 2, none⟩ = some (.int .u32 g.sm)) (first | exact ⟨y0, y1, y2⟩ | exact ⟨z0, z1, z2⟩ | (refine C3 _ ?_; repeat (first | exact HBL.out | exact B5.out | refine Below.drew ?_ | refine Below.alloc ?_ (by first | omega | (simp; omega)) _ | refine Below.setCell ?_ (by dsimp only; first | omega | (simp; omega)) _)))
                    (first
                    | (go_at_call 22; refine (HK.out _ _ _ _ ?_).mono ?_; exact (HBL.out.alloc HBL.out.size _).drew; rintro e w5 ⟨rfl, hb5⟩; have B5 := Lib.hid ((HBL.out.alloc HBL.out.size _).drew.trans (hb5.mono (by simp; omega))); have z0 := (B5.out.cell (p := ⟨fb, fo + i * 4, none⟩) hfb).trans YW0.out; have z1 := (B5.out.cell (p := ⟨fb, fo + i * 4 + 1, none⟩) hfb).trans YW1.out; have z2 := (B5.out.cell (p := ⟨fb, fo + i * 4 + 2, none⟩) hfb).trans YW2.out; have hs5 := B5.out.size; have hk5 : fb < w5.heap.size := Nat.lt_of_lt_of_le hfb B5.out.size; have bb := (BoxS.new wr.drew zeroS).kw hb5 (by simp); obtain ⟨ff0, ff1, ff2, ff3⟩ := bb.frozens; have ff0 : w5.frozen? ⟨wr.heap.size, 0, none⟩ = false := ff0; have ff1 : w5.frozen? ⟨wr.heap.size, 1, none⟩ = false := ff1; have ff2 : w5.frozen? ⟨wr.heap.size, 2, none⟩ = false := ff2; have ff3 : w5.frozen? ⟨wr.heap.size, 3, none⟩ = false := ff3; have hlt5 : wr.heap.size < w5.heap.size := bb.lt; obtain ⟨cc0, cc1, cc2, cc3⟩ := bb.cells; have cc0 : w5.cell? ⟨wr.heap.size, 0, none⟩ = some (.int .u64 0) := cc0; have cc1 : w5.cell? ⟨wr.heap.size, 1, none⟩ = some (.int .i64 0) := cc1; have cc2 : w5.cell? ⟨wr.heap.size, 2, none⟩ = some (.int .u32 0) := cc2; have cc3 : w5.cell? ⟨wr.heap.size, 3, none⟩ = some (.int .u64 0) := cc3; rw [HKG.out]; unfold shV)
                    | (go_at_call 22; refine (HK.out _ _ _ _ ?_).mono ?_; exact HBL.out.drew; rintro e w5 ⟨rfl, hb5⟩; have B5 := Lib.hid (HBL.out.drew.trans (hb5.mono (show W.heap.size ≤ wr.heap.size from hws))); have z0 := (B5.out.cell (p := ⟨fb, fo + i * 4, none⟩) hfb).trans YW0.out; have z1 := (B5.out.cell (p := ⟨fb, fo + i * 4 + 1, none⟩) hfb).trans YW1.out; have z2 := (B5.out.cell (p := ⟨fb, fo + i * 4 + 2, none⟩) hfb).trans YW2.out; have hs5 := B5.out.size; have hk5 : fb < w5.heap.size := Nat.lt_of_lt_of_le hfb B5.out.size; rw [HKG.out]; unfold shV))
                  · have bE := BoxS.new w5 g
                    have hBE := Lib.hid (B5.out.alloc B5.out.size (Obj.cells #[.int .u64 g.tb, .int .i64 g.sz, .int .u32 g.sm, .int .u64 g.nm] 36))
                    clear hb5
                    generalize (w5.alloc (Obj.cells #[.int .u64 g.tb, .int .i64 g.sz, .int .u32 g.sm, .int .u64 g.nm] 36)) = wE at *
                    generalize w5.heap.size = bk at *
                    have t0 := (hBE.out.cell (p := ⟨fb, fo + i * 4, none⟩) hfb).trans YW0.out
                    have t1 := (hBE.out.cell (p := ⟨fb, fo + i * 4 + 1, none⟩) hfb).trans YW1.out
                    have t2 := (hBE.out.cell (p := ⟨fb, fo + i * 4 + 2, none⟩) hfb).trans YW2.out
                    have t3 := (hBE.out.cell (p := ⟨fb, fo + i * 4 + 3, none⟩) hfb).trans YW3.out
                    obtain ⟨v0, v1, v2, v3⟩ := bE.cells
                    have t0 := ext_cell t0
                    have t1 := ext_cell t1
                    have t2 := ext_cell t2
                    have t3 := ext_cell t3
                    have v0 := ext_cell v0
                    have v1 := ext_cell v1
                    have v2 := ext_cell v2
                    have v3 := ext_cell v3
                    clear y0 y1 y2 z0 z1 z2 bE C3
                    go_wp2_with (fail)
                    refine wp_region_ext (by kernel_rfl) (by kernel_rfl) ?_
                    repeat (go_big_quiet_step (fail))
                    refine wpQuiet_nil ?_
                    rintro w6 ⟨⟨_, hb6⟩, rfl⟩
                    have HB6 := Lib.hid (hBE.out.trans (hb6.mono hBE.out.size))
                    clear hb6
                    go_wp2_with (fail)
                    go_roundw
                    case rel => exact ⟨i + 1, by omega, by first | rfl | (push_cast; rfl) | go_num, HB6.out⟩
                    case measure => simp [intOf]; omega
                  · have bE := BoxS.set4 bb g
                    have hBE := Lib.hid ((((B5.out.setCell (p := ⟨wr.heap.size, 0, none⟩) hws (.int .u64 g.tb)).setCell (p := ⟨wr.heap.size, 1, none⟩) hws (.int .i64 g.sz)).setCell (p := ⟨wr.heap.size, 2, none⟩) hws (.int .u32 g.sm)).setCell (p := ⟨wr.heap.size, 3, none⟩) hws (.int .u64 g.nm))
                    clear hb5 ff0 ff1 ff2 ff3 cc0 cc1 cc2 cc3 bb
                    have bE : BoxS ((((w5.setCell ⟨wr.heap.size, 0, none⟩ (.int .u64 g.tb)).setCell ⟨wr.heap.size, 1, none⟩ (.int .i64 g.sz)).setCell ⟨wr.heap.size, 2, none⟩ (.int .u32 g.sm)).setCell ⟨wr.heap.size, 3, none⟩ (.int .u64 g.nm)) wr.heap.size g := bE
                    generalize ((((w5.setCell ⟨wr.heap.size, 0, none⟩ (.int .u64 g.tb)).setCell ⟨wr.heap.size, 1, none⟩ (.int .i64 g.sz)).setCell ⟨wr.heap.size, 2, none⟩ (.int .u32 g.sm)).setCell ⟨wr.heap.size, 3, none⟩ (.int .u64 g.nm)) = wE at *
                    have t0 := (hBE.out.cell (p := ⟨fb, fo + i * 4, none⟩) hfb).trans YW0.out
                    have t1 := (hBE.out.cell (p := ⟨fb, fo + i * 4 + 1, none⟩) hfb).trans YW1.out
                    have t2 := (hBE.out.cell (p := ⟨fb, fo + i * 4 + 2, none⟩) hfb).trans YW2.out
                    have t3 := (hBE.out.cell (p := ⟨fb, fo + i * 4 + 3, none⟩) hfb).trans YW3.out
                    obtain ⟨v0, v1, v2, v3⟩ := bE.cells
                    have t0 := ext_cell t0
                    have t1 := ext_cell t1
                    have t2 := ext_cell t2
                    have t3 := ext_cell t3
                    have v0 := ext_cell v0
                    have v1 := ext_cell v1
                    have v2 := ext_cell v2
                    have v3 := ext_cell v3
                    clear y0 y1 y2 z0 z1 z2 bE C3
                    go_wp2_with (fail)
                    refine wp_region_ext (by kernel_rfl) (by kernel_rfl) ?_
                    repeat (go_big_quiet_step (fail))
                    refine wpQuiet_nil ?_
                    rintro w6 ⟨⟨_, hb6⟩, rfl⟩
                    have HB6 := Lib.hid (hBE.out.trans (hb6.mono hBE.out.size))
                    clear hb6
                    go_wp2_with (fail)
                    go_roundw
                    case rel => exact ⟨i + 1, by omega, by first | rfl | (push_cast; rfl) | go_num, HB6.out⟩
                    case measure => simp [intOf]; omega
                · have hine : i = k := by omega
                  subst hine
                  have hirr : ¬ (i : Int) < (i : Int) := by omega
                  go_wp2_with (go_at_call 11; refine (awake_any _).mono ?_; rintro e w5 ⟨rfl, hb5⟩)
                  go_ret
                  exact ⟨rfl, HBL.out.trans (hb5.mono HBL.out.size)⟩
          · have hrt := rightB_f hr
            refine (HR.out wT HB3.out).mono ?_
            rintro e w4 ⟨rfl, hb4⟩
            rw [hrt]
            have HB4 := Lib.hid (HB3.out.trans (hb4.mono HB3.out.size))
            clear hrt hb4
            go_wp2_with (go_at_call 11; refine (awake_any _).mono ?_; rintro e w5 ⟨rfl, hb5⟩)
            go_ret
            exact ⟨rfl, HB4.out.trans (hb5.mono HB4.out.size)⟩
end Go.Proofs.Ytmalcekbhnkfgaa
