/- The document's example is answered as it must be. Conditions: as each theorem states them. -/
import Derived.Test.YtfojblbnhapedaaGreatDoorR3
import Derived.Test.YtfojblbnhapedaaGreatDoorN1
namespace Go.Proofs.YtfojblbnhapedaaGreatDoor
open Go.RowKit Go.Maps
set_option linter.unusedVariables false
set_option linter.unusedSimpArgs false

theorem eq56 (w : World) : (binOp .eql 56 (.agg #[.int .i64 0, .string ⟨#[97]⟩, .int .i64 0, .int .i64 10, .string ⟨#[49]⟩, .bool false]) (.agg #[.int .i64 0, .string ⟨#[97]⟩, .int .i64 0, .int .i64 10, .string ⟨#[49]⟩, .bool false])).run Tryz.prog w = .ok (.bool true) w := by kernel_rfl
theorem digit1 : digit 1 = ⟨#[49]⟩ := by decide +kernel
theorem digit2 : digit 2 = ⟨#[50]⟩ := by decide +kernel
set_option maxRecDepth 100000 in
set_option maxHeartbeats 8000000 in
theorem awake_any : Awake := by
  intro w
  have HS : Hid (Calls Tryz.prog 32 #[] w fun e w' => e = .returned (.agg #[.int .i64 1, .int .i64 1, .int .i64 0, .int .i64 5, .slice (some ⟨w.heap.size + 1, 0, none⟩) 1 1]) ∧ Below w.heap.size w w' ∧ RdP w' (some ⟨w.heap.size + 1, 0, none⟩) [⟨hits, 1, 1, 10, 0⟩]) := Lib.hid (sample_any w)
  have HQ := Lib.hid eq56
  go_enter Tryz.func13, Tryz.ntmps13
  go_wp2_with (fail)
  refine HS.out.mono ?_
  rintro e w1 ⟨rfl, hb1, hr1⟩
  have HB1 := Lib.hid hb1
  have HNW : Hid (Calls Tryz.prog 14 #[.agg #[.int .i64 1, .int .i64 1, .int .i64 0, .int .i64 5, .slice (some ⟨w.heap.size + 1, 0, none⟩) 1 1]] w1 fun e w' => ∃ B A c, e = .returned (.tuple #[.pointer (some ⟨B.bm, 0, none⟩), .int .i64 0]) ∧ Below w1.heap.size w1 w' ∧ (∀ b, S3 B b → w1.heap.size ≤ b) ∧ 1 ≤ c ∧ c ≤ 9223372036854775807 ∧ MdAt w' B ⟨JX A c, kA (-1125899906842624), [], 0⟩) := Lib.hid ((new_yes (jS (w.heap.size + 1)) w1 hr1 (by show 1 ≤ 1; decide) (by show 1 ≤ 9223372036854775807; decide) (jobX _ _)).mono fun e w' ⟨B, A, c, he, hb, h1, h2, h3, _, hc, hm⟩ => ⟨B, A, c, he, hb, (fun b hs => by rcases hs with e | e | e <;> rw [e] <;> assumption), hc.1, hc.2, hm⟩)
  clear hb1 hr1
  go_wp2_with (fail)
  refine HNW.out.mono ?_
  rintro e w2 ⟨B, A, c, rfl, hb2, hsb, hc1, hc2, hm2⟩
  have HSB := Lib.hid hsb
  clear hsb
  have HB2 := Lib.hid (bl_then HB1.out hb2)
  have HD1 := Lib.hid (do1 w2 B A c hc1 hc2 [] rfl hm2)
  unfold ptrV evV E1 ka at HD1
  dsimp only at HD1
  clear hb2 hm2
  go_wp2_with (fail)
  refine HD1.out.mono ?_
  rintro e w3 ⟨v3, L3, rfl, ho3, hp3, hm3, hk3⟩
  obtain ⟨A3, c3, rfl, _, _, _⟩ := own_read ho3 (by decide)
  have HK3 := Lib.hid hk3
  have HD2 := Lib.hid (do2 w3 B A c hc1 hc2 L3 hp3 (goodX1 A c [] rfl) hm3)
  unfold ptrV evV E2 ka at HD2
  dsimp only at HD2
  clear ho3 hm3 hk3
  go_wp2_with (fail)
  refine HD2.out.mono ?_
  rintro e w4 ⟨v4, L4, rfl, ho4, hp4, hm4, hk4⟩
  obtain ⟨A4, c4, rfl, hc4, _, hr4⟩ := own_read ho4 (by decide)
  obtain ⟨g4, rfl, hg4, hg4l, ⟨cur4, hcur4⟩, hx4⟩ := hr4 (by decide)
  have HO4 := Lib.hid ho4
  have HK4 := Lib.hid hk4
  have HD3 := Lib.hid (do3 w4 B A c hc1 hc2 L4 hp4 (goodX2 A c L3 hp3 (goodX1 A c [] rfl)) hm4)
  have HM4 := Lib.hid hm4
  unfold ptrV evV E3 ka at HD3
  dsimp only at HD3
  clear hm4 hk4 hr4
  go_wp2_with (fail)
  refine HD3.out.mono ?_
  rintro e w5 ⟨v5, L5, rfl, ho5, hp5, hm5, hk5⟩
  obtain ⟨A5, c5, rfl, hc5, _, hr5⟩ := own_read ho5 (by decide)
  obtain ⟨g5, rfl, hg5, hg5l, _, hx5⟩ := hr5 (by decide)
  have hne : ¬ S3 B g4 := by
    rintro (e | e | e)
    · have := HM4.out.md
      rw [← e, hcur4] at this
      injection this with h
      injection h with _ h
      exact absurd h (by decide)
    · have := HM4.out.mks
      unfold MkAt at this
      rw [← e, hcur4] at this
      injection this with h
      injection h with _ h
      exact absurd h (by decide)
    · obtain ⟨es, clock, hm⟩ := HM4.out.mapc
      rw [← e, hcur4] at hm
      cases hm
  have y0 := (hk5.cell (i := 0) hg4l hne).trans (hx4 0 _ rfl)
  have y1 := (hk5.cell (i := 1) hg4l hne).trans (hx4 1 _ rfl)
  have y2 := (hk5.cell (i := 2) hg4l hne).trans (hx4 2 _ rfl)
  have y3 := (hk5.cell (i := 3) hg4l hne).trans (hx4 3 _ rfl)
  have y4 := (hk5.cell (i := 4) hg4l hne).trans (hx4 4 _ rfl)
  have y5 := (hk5.cell (i := 5) hg4l hne).trans (hx4 5 _ rfl)
  have g4l : g4 < w5.heap.size := Nat.lt_of_lt_of_le hg4l hk5.size
  have z4 := hx5 4 _ rfl
  have z5 := hx5 5 _ rfl
  rw [digit1] at y4
  rw [digit2] at z4
  unfold ka at y1
  have HCT := Lib.hid (count_md B _ w5 hm5)
  have hl5 : L5.length = 2 := by rw [← plain_len, hp5]; rfl
  unfold ptrV at HCT
  dsimp only at HCT
  rw [hl5] at HCT
  have HKA : Hid (Below w.heap.size w w5) := Lib.hid (HB2.out.trans (((HK3.out.trans HK4.out).trans hk5).below HB2.out.size (fun b hs => by have := HSB.out b hs; have := HB1.out.size; omega)))
  have heq := HQ.out
  clear hx4 hx5 hr5 ho5 hp5 hm5 hl5 hne HO4 HM4 hp4 hp3 HD1 HD2 HD3
  go_wp2_with (fail)
  refine HCT.out.mono ?_
  rintro e w6 ⟨rfl, rfl⟩
  go_wp2_with (fail)
  go_ret
  exact ⟨rfl, HKA.out⟩
end Go.Proofs.YtfojblbnhapedaaGreatDoor
