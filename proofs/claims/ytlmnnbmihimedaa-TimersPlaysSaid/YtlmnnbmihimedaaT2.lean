/- The walk of the law TimersDue. Conditions: as the theorem states them. -/
import Derived.Test.YtlmnnbmihimedaaT1
namespace Go.Proofs.Ytlmnnbmihimedaa
open Go.RowKit Go.Maps
set_option linter.unusedVariables false
set_option linter.unusedSimpArgs false

theorem putT_cases (T : List Tm) (x : Tm) : putT T x = T ∨ putT T x = x :: T := by
  unfold putT
  split
  · exact .inr rfl
  · exact .inl rfl
theorem cmpT_less {a b : Tm} (h : ltT a b) : cmpT a b = -1 := by
  rcases cmpT_cases a b with ⟨h1, _⟩ | ⟨_, h2, _⟩ | ⟨_, h2, _⟩
  · exact h1
  · subst h2; exact absurd h (ltT_irrefl _)
  · exact absurd (ltT_trans h h2) (ltT_irrefl _)
theorem pair_getD {l : List Tm} (h : l.Pairwise ltT) {i j : Nat} (hij : i < j) (hj : j < l.length) : ltT (l.getD i zeroT) (l.getD j zeroT) := by
  rw [List.getD_eq_getElem?_getD, List.getD_eq_getElem?_getD, List.getElem?_eq_getElem (by omega), List.getElem?_eq_getElem hj]
  exact List.pairwise_iff_getElem.1 h i j (by omega) hj hij
theorem getD_memT {l : List Tm} {i : Nat} (h : i < l.length) : l.getD i zeroT ∈ l := by
  rw [List.getD_eq_getElem?_getD, List.getElem?_eq_getElem h]
  exact List.getElem_mem h
set_option maxRecDepth 100000 in
set_option maxHeartbeats 4000000 in
theorem tdue_small (A : Option Addr) (n c : Nat) (l : List Tm) (upto : Int) (W : World) (hl : l.length = n) (hA : RdT W W.heap.size A l) (hn : n ≤ 200) :
    Calls Try.prog 6 #[.slice A n c, .int .i64 upto] W fun e w' => e = .returned (.bool true) ∧ Below W.heap.size W w' := by
  have hni : ¬ (200 : Int) < (n : Int) := by omega
  have HA := Lib.hid hA
  have HLN := Lib.hid hl
  clear hA hl
  go_enter Try.func6, Try.ntmps6
  go_wp2_with (fail)
  refine (filled_any A n c l W HLN.out (by omega) HA.out).mono ?_
  rintro e w1 ⟨rfl, hq1, hb1⟩
  have HQ1 := Lib.hid hq1
  have HB1 := Lib.hid hb1
  have hs1 := hb1.size
  clear hq1 hb1
  go_wp2_with (fail)
  refine (lenL _ _ _ _ _ w1 HQ1.out).mono ?_
  rintro e _ ⟨rfl, rfl⟩
  go_wp2_with (fail)
  refine (dueL _ _ _ _ _ upto w1 HQ1.out hs1).mono ?_
  rintro e w2 ⟨vo, out, rest, rfl, hown, hp, ho, hr, hs, hq2, hk2⟩
  have hs2 := hk2.size
  obtain ⟨Ao, co, rfl, hco, hRo, hbo⟩ := own_rd hown
  have hln := hp.length_eq
  rw [List.length_append] at hln
  have HO := Lib.hid ho
  have HS := Lib.hid hs
  have HRo := Lib.hid hRo
  have HR := Lib.hid hr
  have HQ2 := Lib.hid hq2
  have HK2 := Lib.hid hk2
  have hTl := HQ1.out.length
  clear hown hp ho hr hs hq2 hk2 hRo hbo
  go_wp2_with (fail)
  refine (listL _ _ _ _ _ w2 HQ2.out).mono ?_
  rintro e w3 ⟨vl, left, rfl, hownl, hpl, hsl, hb3⟩
  obtain ⟨Al, cl, rfl, hcl, hRl, hbl⟩ := own_rd hownl
  have hs3 := hb3.size
  have hll := hpl.length_eq
  have HPL := Lib.hid hpl
  have HSL := Lib.hid hsl
  have HRl := Lib.hid hRl
  have HRo3 := Lib.hid ((HRo.out.below hb3).more hs3 (Nat.le_refl _))
  have HQ3 := Lib.hid (HQ2.out.below hb3)
  have HB3 := Lib.hid hb3
  have hOL : ∀ x ∈ left, upto < x.t := fun x hx => HR.out x (hpl.mem_iff.1 hx)
  have HOL := Lib.hid hOL
  have hsum : (out.length : Int) + (left.length : Int) = ((putAll [] l).length : Int) := by omega
  obtain ⟨a, ha⟩ : ∃ a, out.length = a := ⟨_, rfl⟩
  obtain ⟨b, hb⟩ : ∃ b, left.length = b := ⟨_, rfl⟩
  obtain ⟨m, hm⟩ : ∃ m, (putAll [] l).length = m := ⟨_, rfl⟩
  rw [ha] at hln hsum ⊢
  rw [hb] at hll hsum ⊢
  rw [hm] at hln hsum hTl ⊢
  have HAl := Lib.hid ha
  have HBl := Lib.hid hb
  have hab : m = a + b := by omega
  subst hab
  have HLL := Lib.hid hll
  clear hownl hpl hsl hRl hb3 hOL hbl ha hb hm hsum hln hll
  have hal : a ≤ 1024 := by omega
  have hbl : b ≤ 1024 := by omega
  go_wp2_with (fail)
  go_loopw [10] (fun vi wr => ∃ i : Nat, i ≤ a ∧ vi = .int .i64 i ∧ Below w3.heap.size w3 wr) (fun i _ => a - (intOf i).toNat)
  case atStart => exact ⟨0, Nat.zero_le _, rfl, Below.refl _ _⟩
  case round =>
    obtain ⟨i, hin, rfl, hbl1⟩ := hrel
    have HBL1 := Lib.hid hbl1
    have hws1 := hbl1.size
    by_cases hlt1 : i < a
    · have hi0 : (0 : Int) ≤ (i : Int) := by omega
      have hi1 : (i : Int) < (a : Int) := by omega
      obtain ⟨bk, off, rfl, hbk, _, hc⟩ := HRo3.out (by rw [HAl.out]; omega)
      obtain ⟨a0, a1, a2⟩ := hc i (by rw [HAl.out]; exact hlt1)
      have hco : (out.getD i zeroT).t ≤ upto := HO.out _ (getD_memT (by rw [HAl.out]; exact hlt1))
      have a0 := (hbl1.cell (p := ⟨bk, off + i * 3, none⟩) hbk).trans a0
      have a1 := (hbl1.cell (p := ⟨bk, off + i * 3 + 1, none⟩) hbk).trans a1
      have a2 := (hbl1.cell (p := ⟨bk, off + i * 3 + 2, none⟩) hbk).trans a2
      have hlb : bk < wr.heap.size := by omega
      by_cases hz : i = 0
      · subst hz
        generalize out.getD 0 zeroT = x at *
        rw [Nat.zero_mul, Nat.add_zero] at a0 a1 a2
        have HCD : Hid (decide (upto < x.t) = false) := Lib.hid (decide_eq_false (by omega))
        clear hc hbl1 hco
        have e0 := ext_cell a0
        have e1 := ext_cell a1
        have e2 := ext_cell a2
        go_wp2_with (fail)
        refine wp_region_ext (by kernel_rfl) (by kernel_rfl) ?_
        repeat (first | rw [HCD.out] | go_big_quiet_step (fail))
        refine wpQuiet_nil ?_
        rintro w9 ⟨⟨_, hb9⟩, rfl⟩
        have HB9 := Lib.hid (bl_then HBL1.out hb9)
        clear hb9 e0 e1 e2
        go_wp2_with (fail)
        go_roundw
        case rel => exact ⟨0 + 1, by omega, by first | rfl | (push_cast; rfl) | go_num, HB9.out⟩
        case measure => simp [intOf]; omega
      · obtain ⟨j, rfl⟩ : ∃ j, i = j + 1 := ⟨i - 1, by omega⟩
        obtain ⟨p0, p1, p2⟩ := hc j (by rw [HAl.out]; omega)
        have hlo := pair_getD HS.out (Nat.lt_succ_self j) (by rw [HAl.out]; exact hlt1)
        have p0 := (hbl1.cell (p := ⟨bk, off + j * 3, none⟩) hbk).trans p0
        have p1 := (hbl1.cell (p := ⟨bk, off + j * 3 + 1, none⟩) hbk).trans p1
        have p2 := (hbl1.cell (p := ⟨bk, off + j * 3 + 2, none⟩) hbk).trans p2
        generalize out.getD j zeroT = y at *
        generalize out.getD (j + 1) zeroT = x at *
        have HCD : Hid (decide (upto < x.t) = false) := Lib.hid (decide_eq_false (by omega))
        have HCM : Hid (∀ w, Calls Try.prog 13 #[.agg #[.int .i64 y.t, .string y.k, .string y.s], .agg #[.int .i64 x.t, .string x.k, .string x.s]] w fun e w' => e = .returned (.int .i64 (-1)) ∧ Below w.heap.size w w') := Lib.hid fun w => cmp_any y.t x.t y.k x.k y.s x.s w _ (cmpT_less hlo)
        have hj0 : (0 : Int) ≤ (j : Int) := by omega
        have hj1 : (j : Int) < (a : Int) := by omega
        have hjp : (0 : Int) < (j : Int) + 1 := by omega
        have hjw : IntKind.i64.wrap ((j : Int) + 1 - 1) = (j : Int) := by rw [IntKind.wrap_i64]; omega
        clear hc hbl1 hco hlo hz
        have e0 := ext_cell a0
        have e1 := ext_cell a1
        have e2 := ext_cell a2
        have f0 := ext_cell p0
        have f1 := ext_cell p1
        have f2 := ext_cell p2
        go_wp2_with (fail)
        refine wp_region_ext (by kernel_rfl) (by kernel_rfl) ?_
        repeat (first | rw [HCD.out] | go_big_quiet_step ((go_at_call 13; exact ext_calls (HCM.out _))))
        refine wpQuiet_nil ?_
        rintro w9 ⟨⟨_, hb9⟩, rfl⟩
        have HB9 := Lib.hid (bl_then HBL1.out hb9)
        clear hb9 e0 e1 e2 f0 f1 f2 hjw
        go_wp2_with (fail)
        go_roundw
        case rel => exact ⟨j + 1 + 1, by omega, by first | rfl | (push_cast; rfl) | go_num, HB9.out⟩
        case measure => simp [intOf]; omega
    · have hine : i = a := by omega
      subst hine
      have hirr : ¬ (i : Int) < (i : Int) := by omega
      clear hbl1
      go_wp2_with (fail)
      obtain ⟨wr1, hwr1⟩ : ∃ x, x = wr := ⟨_, rfl⟩
      subst hwr1
      have HRl2 := Lib.hid ((HRl.out.below HBL1.out).more HBL1.out.size (Nat.le_refl _))
      go_loopw [11] (fun vi wr => ∃ i : Nat, i ≤ b ∧ vi = .int .i64 i ∧ Below wr1.heap.size wr1 wr) (fun i _ => b - (intOf i).toNat)
      case atStart => exact ⟨0, Nat.zero_le _, rfl, Below.refl _ _⟩
      case round =>
        obtain ⟨i, hin, rfl, hbl2⟩ := hrel
        have HBL2 := Lib.hid hbl2
        have hws2 := hbl2.size
        by_cases hlt2 : i < b
        · have hi0 : (0 : Int) ≤ (i : Int) := by omega
          have hi1 : (i : Int) < (b : Int) := by omega
          obtain ⟨bk, off, rfl, hbk, _, hc⟩ := HRl2.out (by rw [HBl.out]; omega)
          obtain ⟨a0, a1, a2⟩ := hc i (by rw [HBl.out]; exact hlt2)
          have hco : upto < (left.getD i zeroT).t := HOL.out _ (getD_memT (by rw [HBl.out]; exact hlt2))
          have a0 := (hbl2.cell (p := ⟨bk, off + i * 3, none⟩) hbk).trans a0
          have a1 := (hbl2.cell (p := ⟨bk, off + i * 3 + 1, none⟩) hbk).trans a1
          have a2 := (hbl2.cell (p := ⟨bk, off + i * 3 + 2, none⟩) hbk).trans a2
          have hlb : bk < wr.heap.size := by omega
          by_cases hz : i = 0
          · subst hz
            generalize left.getD 0 zeroT = x at *
            rw [Nat.zero_mul, Nat.add_zero] at a0 a1 a2
            have HCD : Hid (decide (x.t ≤ upto) = false) := Lib.hid (decide_eq_false (by omega))
            clear hc hbl2 hco
            have e0 := ext_cell a0
            have e1 := ext_cell a1
            have e2 := ext_cell a2
            go_wp2_with (fail)
            refine wp_region_ext (by kernel_rfl) (by kernel_rfl) ?_
            repeat (first | rw [HCD.out] | go_big_quiet_step (fail))
            refine wpQuiet_nil ?_
            rintro w9 ⟨⟨_, hb9⟩, rfl⟩
            have HB9 := Lib.hid (bl_then HBL2.out hb9)
            clear hb9 e0 e1 e2
            go_wp2_with (fail)
            go_roundw
            case rel => exact ⟨0 + 1, by omega, by first | rfl | (push_cast; rfl) | go_num, HB9.out⟩
            case measure => simp [intOf]; omega
          · obtain ⟨j, rfl⟩ : ∃ j, i = j + 1 := ⟨i - 1, by omega⟩
            obtain ⟨p0, p1, p2⟩ := hc j (by rw [HBl.out]; omega)
            have hlo := pair_getD HSL.out (Nat.lt_succ_self j) (by rw [HBl.out]; exact hlt2)
            have p0 := (hbl2.cell (p := ⟨bk, off + j * 3, none⟩) hbk).trans p0
            have p1 := (hbl2.cell (p := ⟨bk, off + j * 3 + 1, none⟩) hbk).trans p1
            have p2 := (hbl2.cell (p := ⟨bk, off + j * 3 + 2, none⟩) hbk).trans p2
            generalize left.getD j zeroT = y at *
            generalize left.getD (j + 1) zeroT = x at *
            have HCD : Hid (decide (x.t ≤ upto) = false) := Lib.hid (decide_eq_false (by omega))
            have HCM : Hid (∀ w, Calls Try.prog 13 #[.agg #[.int .i64 y.t, .string y.k, .string y.s], .agg #[.int .i64 x.t, .string x.k, .string x.s]] w fun e w' => e = .returned (.int .i64 (-1)) ∧ Below w.heap.size w w') := Lib.hid fun w => cmp_any y.t x.t y.k x.k y.s x.s w _ (cmpT_less hlo)
            have hj0 : (0 : Int) ≤ (j : Int) := by omega
            have hj1 : (j : Int) < (b : Int) := by omega
            have hjp : (0 : Int) < (j : Int) + 1 := by omega
            have hjw : IntKind.i64.wrap ((j : Int) + 1 - 1) = (j : Int) := by rw [IntKind.wrap_i64]; omega
            clear hc hbl2 hco hlo hz
            have e0 := ext_cell a0
            have e1 := ext_cell a1
            have e2 := ext_cell a2
            have f0 := ext_cell p0
            have f1 := ext_cell p1
            have f2 := ext_cell p2
            go_wp2_with (fail)
            refine wp_region_ext (by kernel_rfl) (by kernel_rfl) ?_
            repeat (first | rw [HCD.out] | go_big_quiet_step ((go_at_call 13; exact ext_calls (HCM.out _))))
            refine wpQuiet_nil ?_
            rintro w9 ⟨⟨_, hb9⟩, rfl⟩
            have HB9 := Lib.hid (bl_then HBL2.out hb9)
            clear hb9 e0 e1 e2 f0 f1 f2 hjw
            go_wp2_with (fail)
            go_roundw
            case rel => exact ⟨j + 1 + 1, by omega, by first | rfl | (push_cast; rfl) | go_num, HB9.out⟩
            case measure => simp [intOf]; omega
        · have hine : i = b := by omega
          subst hine
          have hirr : ¬ (i : Int) < (i : Int) := by omega
          clear hbl2
          go_wp2_with (fail)
          have HQ9 := Lib.hid ((HQ3.out.below HBL1.out).below HBL2.out)
          have HRl9 := Lib.hid ((HRl.out.below HBL1.out).below HBL2.out)
          have HW : Hid (Below W.heap.size W wr) := Lib.hid (((((Kw.ofBelow HB1.out).trans HK2.out).trans (Kw.ofBelow HB3.out)).trans ((Kw.ofBelow HBL1.out).trans (Kw.ofBelow HBL2.out))).below (Nat.le_refl _) (fun b h => h))
          have H15 : Hid (∀ w, Calls Try.prog 15 #[] w fun e w' => e = .returned (.bool true) ∧ Below w.heap.size w w') := Lib.hid awake_any
          by_cases hi0 : i = 0
          · subst hi0
            have hln : left = [] := List.length_eq_zero_iff.1 HBl.out
            have hrn : rest = [] := by have := HPL.out; rw [hln] at this; exact List.nil_perm.1 this
            have HN := Lib.hid (nextL_nil _ _ _ _ wr (hrn ▸ HQ9.out))
            clear hln hrn
            refine HN.out.mono ?_
            rintro e w10 ⟨rfl, hb10⟩
            have HB10 := Lib.hid hb10
            clear hb10
            unfold tmV zeroT
            dsimp only
            go_wp2_with (fail)
            refine wp_region_ext (by kernel_rfl) (by kernel_rfl) ?_
            repeat (go_big_quiet_step ((go_at_call 15; exact ext_calls (H15.out _))))
            refine wpQuiet_nil ?_
            rintro w11 ⟨⟨_, hb11⟩, rfl⟩
            go_wp2_with (fail)
            go_ret
            exact ⟨rfl, bl_then (bl_then HW.out (bl_alloc HB10.out _)) hb11⟩
          · have hne : rest ≠ [] := fun e => by have := HLL.out; rw [e] at this; have h2 := HBl.out; simp at this; omega
            refine (nextL _ _ _ _ _ wr HQ9.out hne).mono ?_
            rintro e w10 ⟨x, hx, hle, rfl, hb10⟩
            have hxl : x = left.getD 0 zeroT := by
              have hxm : x ∈ left := HPL.out.mem_iff.2 hx
              obtain ⟨p, hp, hpx⟩ := List.mem_iff_getElem.1 hxm
              have h0m : left.getD 0 zeroT ∈ rest := HPL.out.mem_iff.1 (getD_memT (by omega))
              have h1 := hle _ h0m
              by_cases hp0 : p = 0
              · subst hp0
                rw [← hpx, List.getD_eq_getElem?_getD, List.getElem?_eq_getElem hp]
                rfl
              · have h2 := pair_getD HSL.out (i := 0) (j := p) (by omega) hp
                have h3 : left.getD p zeroT = x := by
                  rw [List.getD_eq_getElem?_getD, List.getElem?_eq_getElem hp]
                  exact hpx
                rw [h3] at h2
                exact leT_antisymm h1 (.inl h2)
            obtain ⟨bk, off, rfl, hbk, _, hc⟩ := HRl9.out (by rw [HBl.out]; omega)
            obtain ⟨a0, a1, a2⟩ := hc 0 (by rw [HBl.out]; omega)
            rw [← hxl] at a0 a1 a2
            rw [Nat.zero_mul, Nat.add_zero] at a0 a1 a2
            have hbw : Below w3.heap.size w3 wr := bl_then HBL1.out HBL2.out
            have hbkw : bk < wr.heap.size := by have := hbw.size; omega
            have hbA := bl_alloc hb10 (Obj.cells #[.int .i64 x.t, .string x.k, .string x.s] 23)
            have hsz10 := hb10.size
            have a0 := (hbA.cell (p := ⟨bk, off, none⟩) hbkw).trans a0
            have a1 := (hbA.cell (p := ⟨bk, off + 1, none⟩) hbkw).trans a1
            have a2 := (hbA.cell (p := ⟨bk, off + 2, none⟩) hbkw).trans a2
            have t0 : (w10.alloc (Obj.cells #[.int .i64 x.t, .string x.k, .string x.s] 23)).cell? ⟨w10.heap.size, 0, none⟩ = some (.int .i64 x.t) := by go_keep
            have t1 : (w10.alloc (Obj.cells #[.int .i64 x.t, .string x.k, .string x.s] 23)).cell? ⟨w10.heap.size, 1, none⟩ = some (.string x.k) := by go_keep
            have t2 : (w10.alloc (Obj.cells #[.int .i64 x.t, .string x.k, .string x.s] 23)).cell? ⟨w10.heap.size, 2, none⟩ = some (.string x.s) := by go_keep
            have hlA : bk < (w10.alloc (Obj.cells #[.int .i64 x.t, .string x.k, .string x.s] 23)).heap.size := by simp; omega
            have hlT : w10.heap.size < (w10.alloc (Obj.cells #[.int .i64 x.t, .string x.k, .string x.s] 23)).heap.size := by simp
            have HBA := Lib.hid hbA
            have hip : (0 : Int) < (i : Int) := by omega
            have hip' : 0 < i := by omega
            clear hx hle hxl hc hbw hbA hb10 hne
            unfold tmV
            go_wp2_with (fail)
            have e0 := ext_cell a0
            have e1 := ext_cell a1
            have e2 := ext_cell a2
            have f0 := ext_cell t0
            have f1 := ext_cell t1
            have f2 := ext_cell t2
            refine wp_region_ext (by kernel_rfl) (by kernel_rfl) ?_
            repeat (go_big_quiet_step ((go_at_call 15; exact ext_calls (H15.out _))))
            refine wpQuiet_nil ?_
            rintro w11 ⟨⟨_, hb11⟩, rfl⟩
            go_wp2_with (fail)
            go_ret
            exact ⟨rfl, bl_then (bl_then HW.out HBA.out) hb11⟩
end Go.Proofs.Ytlmnnbmihimedaa
