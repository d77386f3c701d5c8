/- The walk of the law WindowSessions: it returns true, for any list of windows and any turn. Conditions: as the theorem states them. -/
import Derived.Test.YtgpmceimhfkncaaL0
import Derived.Test.YtgpmceimhfkncaaN1
namespace Go.Proofs.Ytgpmceimhfkncaa
open Go.RowKit Go.Proofs.YtgpmceimhfkncaaW.PrintWords Go.Proofs.Ytgpmceimhfkncaa.WW Go.Proofs.Ytgpmceimhfkncaa.PWindowWithin Go.Proofs.YtgpmceimhfkncaaW.PrintLast
set_option linter.unusedVariables false
set_option linter.unusedSimpArgs false

theorem wpList_append_m {ops : Array Oper} {rest : List Oper} {o : Oper} {a : Act} {Q : Exit → Act → World → Prop} (w : World) (hgd : o.guard = none) (s x : Operand)
    (ho : o.op = .call { callee := .builtin .append, args := #[s, x], argTypes := #[24, 24] }) (base n : Nat) (v : Value) (xs : List Value) (hs : a.eval s = v) (hown : w.ownsRow base 33 2 v n xs)
    (A : Option Addr) (m c B : Nat) (l : List (Int × Int)) (hm : l.length = m) (hx : a.eval x = .slice A m c) (hr : RdW w B A l) (hnone : A = none → c = 0) (hn : n + m ≤ 1000001) (hbase : base ≤ w.heap.size)
    (h : ∀ v' w', w'.ownsRow base 33 2 v' (n + m) (xs ++ wcells l) → w.grownBy w' v.ownBlock → wpList Try.prog ops Q rest (a.put o.dst v') w') : wpList Try.prog ops Q (o :: rest) a w := by
  subst hm
  exact wpList_append_l w hgd s x ho base n v xs hs hown A c B l hx hr hnone hn hbase h
theorem step_append_m {ops : Array Oper} {o : Oper} {a : Act} {K : Act → World → Prop} {Q : Exit → Act → World → Prop} {E : Prop} (w : World) (hgd : o.guard = none) (s x : Operand)
    (ho : o.op = .call { callee := .builtin .append, args := #[s, x], argTypes := #[24, 24] }) (base n : Nat) (v : Value) (xs : List Value) (hs : a.eval s = v) (hown : w.ownsRow base 33 2 v n xs)
    (b off m c B : Nat) (l : List (Int × Int)) (hm : l.length = m) (hx : a.eval x = .slice (some ⟨b, off, none⟩) m c) (hr : RdW w B (some ⟨b, off, none⟩) l) (hn : n + m ≤ 1000001) (hbase : base ≤ w.heap.size)
    (h : ∀ v' w', w'.ownsRow base 33 2 v' (n + m) (xs ++ wcells l) → w.grownBy w' v.ownBlock → K (a.put o.dst v') w') :
    if Region.wanted o (yielded ops a.tmps) = true then Oper.wp Try.prog o a w K Q else E := by
  have hw : Region.wanted o (yielded ops a.tmps) = true := by simp [Region.wanted, hgd]
  rw [if_pos hw]
  subst hm
  obtain ⟨i0, hi, hz0, hz1, hz2⟩ := info_parts Try.info33
  exact wp_append_own w s x 24 ho base 33 i0 (.agg #[.int .i64 0, .int .i64 0]) 2 16 Try.underlying24 hi hz0 hz1 hz2 rfl (by decide) v n xs hs hown ⟨b, off, none⟩ l.length c (wcells l) hx (wcells_len l) (rd_cells hr) (wcells_one l) (by simp [maxLen]; omega) (by omega) hbase (fun v' w' h1 h2 _ => h v' w' h1 h2)
theorem own_ge {w : World} {base e size n : Nat} {v : Value} {xs : List Value} (h : w.ownsRow base e size v n xs) : ∀ g, v.ownBlock = some g → base ≤ g := by
  intro g hg
  rcases h.2 with ⟨rfl, h0⟩ | ⟨g', cap, cur, rfl, hb, _⟩
  · simp [Value.ownBlock] at hg
  · simp [Value.ownBlock] at hg; omega
theorem RdW.drop {w : World} {B b off : Nat} {l : List (Int × Int)} (h : RdW w B (some ⟨b, off, none⟩) l) (k : Nat) : RdW w B (some ⟨b, off + k * 2, none⟩) (l.drop k) := by
  refine ⟨by have := h.1; rw [List.length_drop]; omega, fun hn => ?_⟩
  rw [List.length_drop] at hn
  obtain ⟨b', off', e, hb, hc⟩ := h.2 (by omega)
  cases e
  refine ⟨b, off + k * 2, rfl, hb, fun i hi => ?_⟩
  rw [List.length_drop] at hi
  have := hc (k + i) (by omega)
  rw [show (l.drop k).getD i (0, 0) = l.getD (k + i) (0, 0) by rw [List.getD_eq_getElem?_getD, List.getD_eq_getElem?_getD, List.getElem?_drop]]
  rw [show off + k * 2 + i * 2 = off + (k + i) * 2 by omega]
  exact this
theorem RdW.take {w : World} {B : Nat} {A : Option Addr} {l : List (Int × Int)} (h : RdW w B A l) (k : Nat) : RdW w B A (l.take k) := by
  refine ⟨by have := h.1; rw [List.length_take]; omega, fun hn => ?_⟩
  rw [List.length_take] at hn
  obtain ⟨b', off', e, hb, hc⟩ := h.2 (by omega)
  refine ⟨b', off', e, hb, fun i hi => ?_⟩
  rw [List.length_take] at hi
  have := hc i (by omega)
  rwa [show (l.take k).getD i (0, 0) = l.getD i (0, 0) by rw [List.getD_eq_getElem?_getD, List.getD_eq_getElem?_getD, List.getElem?_take, if_pos (by omega)]]
theorem new_row0 (w : World) (o : Obj) : (w.alloc o).heap[w.heap.size]? = some o := Array.getElem?_push_size
theorem any_step {l : List (Int × Int)} {j : Nat} {y : Int} (g : Int × Int → Int) {f : Bool} (hf : f = true ↔ ∃ q, q < j ∧ g (l.getD q (0, 0)) = y) (x : Int × Int) (hx : l.getD j (0, 0) = x) :
    (f || (g x == y)) = true ↔ ∃ q, q < j + 1 ∧ g (l.getD q (0, 0)) = y := by
  rw [Bool.or_eq_true, hf]
  constructor
  · rintro (⟨q, hq, h⟩ | h)
    · exact ⟨q, by omega, h⟩
    · exact ⟨j, by omega, by rw [hx]; simpa using h⟩
  · rintro ⟨q, hq, h⟩
    by_cases hqj : q < j
    · exact .inl ⟨q, hqj, h⟩
    · obtain rfl : q = j := by omega
      rw [hx] at h
      exact .inr (by simpa using h)
set_option maxRecDepth 100000 in
set_option maxHeartbeats 1000000 in
theorem ses_pos (b off c : Nat) (l : List (Int × Int)) (t : Int) (w : World) (hr : RdW w w.heap.size (some ⟨b, off, none⟩) l) (hc : l.length ≤ c) (hn : l.length ≤ 60) (hpos : 0 < l.length) (kk : Nat) (hk : kk < l.length) (htm : t.tmod (l.length : Int) = (kk : Int)) :
    Calls Try.prog 6 #[.slice (some ⟨b, off, none⟩) l.length c, .int .i64 t] w fun e w' => e = .returned (.bool true) ∧ Below w.heap.size w w' := by
  have hml := hr.1
  have HR := Lib.hid hr
  clear hr
  have hpd : decide (0 < l.length) = true := by simpa using hpos
  have hne : ¬ (l.length : Int) = 0 := by omega
  go_enter Try.func6, Try.ntmps6
  have hk0 : (0 : Int) ≤ (kk : Int) := by omega
  have hk1 : (kk : Int) ≤ (l.length : Int) := by omega
  have hk2 : (kk : Int) ≤ (c : Int) := by omega
  have hk3 : (l.length : Int) ≤ (c : Int) := by omega
  have hck : ¬ c = kk := by omega
  have hown0 : (w.alloc (Obj.cells #[] 33)).ownsRow w.heap.size 33 2 (.slice (some ⟨w.heap.size, 0, none⟩) 0 0) 0 [] :=
    ⟨rfl, .inr ⟨w.heap.size, 0, #[], rfl, Nat.le_refl _, new_row0 w _, Nat.le_refl _, by simp [maxLen], rfl, rfl⟩⟩
  have ho0 : (l.drop kk).length = l.length - kk := List.length_drop
  have ho1 : (l.take kk).length = kk := by rw [List.length_take]; omega
  have HO0 := Lib.hid ho0
  have HO1 := Lib.hid ho1
  clear ho0 ho1
  go_wp2_with (fail)
  go_region_held3 (fun _ => True) (trivial)
    ((first
      | (refine step_append_m _ rfl _ _ rfl w.heap.size 0 (.slice (some ⟨w.heap.size, 0, none⟩) 0 0) [] rfl hown0 b (off + kk * 2) (l.length - kk) (c - kk) w.heap.size (l.drop kk) HO0.out rfl ((HR.out.drop kk).below ((bl_alloc (Below.refl _ _) _).drew)) (by omega) (by simp) ?_; intro v1 w1 hown1 hgrow1)
      | (refine step_append_m _ rfl _ _ rfl w.heap.size (0 + (l.length - kk)) v1 _ rfl hown1 b off kk c w.heap.size (l.take kk) HO1.out rfl ((HR.out.take kk).below ((((Below.refl _ _).alloc (Nat.le_refl _) _).drew.grown hgrow1 (by simp) (fun g hg => by simp [Value.ownBlock] at hg; omega)))) (by omega) (by have := hgrow1.size; simp at this; omega) ?_; intro v2 w2 hown2 hgrow2)))
  have hb1 : Below w.heap.size w w1 := (((Below.refl _ _).alloc (Nat.le_refl _) _).drew.grown hgrow1 (by simp) (fun g hg => by simp [Value.ownBlock] at hg; omega))
  have hb2 : Below w.heap.size w w2 := hb1.grown hgrow2 hb1.size (own_ge hown1)
  have hownT : w2.ownsRow w.heap.size 33 2 v2 (l.drop kk ++ l.take kk).length (wcells (l.drop kk ++ l.take kk)) := by
    rw [wcells_append, List.length_append, HO0.out, HO1.out]
    simpa using hown2
  have hTl : (l.drop kk ++ l.take kk).length = l.length := by rw [List.length_append, HO0.out, HO1.out]; omega
  have hTv : allV (l.drop kk ++ l.take kk) = allV l := allV_same fun x => by
    rw [List.mem_append, Or.comm, ← List.mem_append, List.take_append_drop]
  generalize l.drop kk ++ l.take kk = T at *
  obtain ⟨A0, c0, rfl, hc0, hr0⟩ := own_reads hownT
  rw [hTl] at hc0 ⊢
  have hTn := hTl
  obtain ⟨⟨L, ok⟩, hv⟩ : ∃ q, allV l = q := ⟨_, rfl⟩
  rw [hv] at hTv
  have hLn : L.length ≤ 60 := by have := allV_len (l := l); rw [hv] at this; dsimp only at this; omega
  have HV := Lib.hid hv
  have HT := Lib.hid hTv
  have HTL := Lib.hid hTl
  have HR0 := Lib.hid hr0
  clear hv hTv hTl hTn hr0 hownT hown1 hown2 hgrow1 hgrow2 hown0 htm
  go_wp2_with (fail)
  refine (all_any (some ⟨b, off, none⟩) c l false _ (HR.out.below hb2 |>.more hb2.size) hc (by omega) L ok HV.out).mono ?_
  rintro e w3 ⟨A1, c1, rfl, hc1, hr1, hb3⟩
  go_wp2_with (fail)
  refine (all_any (some ⟨b, off, none⟩) c l true _ (HR.out.below (bl_then hb2 hb3) |>.more (bl_then hb2 hb3).size) hc (by omega) L ok HV.out).mono ?_
  rintro e w4 ⟨A2, c2, rfl, hc2, hr2, hb4⟩
  go_wp2_with (fail)
  have hall := all_any A0 c0 T false w4 ((HR0.out.below (bl_then hb3 hb4)).more (bl_then hb3 hb4).size) (by rw [HTL.out]; exact hc0) (by rw [HTL.out]; omega) L ok HT.out
  rw [HTL.out] at hall
  refine hall.mono ?_
  clear hall
  rintro e w5 ⟨A3, c3, rfl, hc3, hr3, hb5⟩
  have hr1 := hr1.below (bl_then hb4 hb5)
  have hr2 := hr2.below hb5
  have hbw := bl_then (bl_then (bl_then hb2 hb3) hb4) hb5
  have b35 : Below w3.heap.size w3 w5 := bl_then hb4 hb5
  have hz34 : w3.heap.size ≤ w4.heap.size := hb4.size
  have hz45 : w4.heap.size ≤ w5.heap.size := hb5.size
  have HL := Lib.hid (fun h : ok = true => (show (∀ x ∈ l, mayB x = true) ∧ L = foldW l from by
    have := HV.out
    unfold allV at this
    by_cases hh : l.all mayB = true
    · rw [if_pos hh] at this
      exact ⟨List.all_eq_true.1 hh, (Prod.mk.inj this).1.symm⟩
    · rw [if_neg hh] at this
      rw [h] at this
      cases (Prod.mk.inj this).2))
  clear hb2 hb3 hb4 hb5
  cases ok
  · go_wp2_with (fail)
    refine (awake_any _).mono ?_
    rintro e w6 ⟨rfl, hb6⟩
    go_wp2
    go_ret
    exact ⟨rfl, bl_then hbw hb6⟩
  · obtain ⟨hmy, hLf⟩ := HL.out rfl
    have hFW := foldW_ok hmy
    rw [← hLf] at hFW
    have HFW := Lib.hid hFW
    clear hFW hmy hLf HL
    have hLap := (ap_iff L).2 HFW.out.ap
    have HLAP := Lib.hid hLap
    clear hLap
    go_wp2_with (fail)
    refine (same_any A1 A2 c1 c2 L _ (C_of_RdW hr1) hc1 (C_of_RdW hr2) hc2).mono ?_
    rintro e w6 ⟨rfl, hb6⟩
    go_wp2_with (fail)
    refine (same_any A1 A3 c1 c3 L _ (C_of_RdW (hr1.below (hb6.mono (by omega)))) hc1 (C_of_RdW (hr3.below hb6)) hc3).mono ?_
    rintro e w7 ⟨rfl, hb7⟩
    have b57 : Below w5.heap.size w5 w7 := bl_then hb6 hb7
    clear hb6 hb7
    go_wp2_with (fail)
    refine (apart_any A1 c1 L _ ((hr1.below (b57.mono (by omega))).more (by have := b57.size; omega)) hc1 true HLAP.out).mono ?_
    rintro e w8 ⟨rfl, hb8⟩
    have b58 : Below w5.heap.size w5 w8 := bl_then b57 hb8
    have hr1 := hr1.below (b58.mono (by omega))
    have hbw := bl_then hbw b58
    have hz3 : w3.heap.size ≤ w8.heap.size := by have := b58.size; omega
    clear b57 hb8 b58 hr2 hr3
    go_wp2_with (fail)
    obtain ⟨_, _, e, hbw0, hcell⟩ := HR.out.2 hpos
    cases e
    have HC := Lib.hid hcell
    clear hcell
    have hLpos : 0 < L.length := by
      obtain ⟨a, ha, _⟩ := HFW.out.inn (l.getD 0 (0, 0)) (by rw [getD_eq l 0 hpos]; exact List.getElem_mem _)
      exact List.length_pos_of_mem ha
    obtain ⟨ba, oa, rfl, _⟩ := hr1.2 hLpos
    clear hLpos
    go_loopw [14] (fun i wr => ∃ k : Nat, k ≤ l.length ∧ i = .int .i64 k ∧ Below w8.heap.size w8 wr) (fun i _ => l.length - (intOf i).toNat)
    case atStart => exact ⟨0, Nat.zero_le _, rfl, Below.refl _ _⟩
    case round =>
      obtain ⟨k, hkl, rfl, hbl⟩ := hrel
      by_cases hlt : k < l.length
      · have hbx := bl_then hbw hbl
        have q0 := (hbx.cell (p := ⟨b, off + k * 2, none⟩) hbw0).trans (HC.out k hlt).1
        have q1 := (hbx.cell (p := ⟨b, off + k * 2 + 1, none⟩) hbw0).trans (HC.out k hlt).2
        have hin : insideB L (l.getD k (0, 0)) = true := by
          obtain ⟨a, ha, h⟩ := HFW.out.inn (l.getD k (0, 0)) (by rw [getD_eq l k hlt]; exact List.getElem_mem _)
          exact List.any_eq_true.2 ⟨a, ha, by simpa using h⟩
        generalize l.getD k (0, 0) = x at *
        obtain ⟨x1, x2⟩ := x
        have HIN := Lib.hid hin
        have hbz : b < wr.heap.size := by have := hbx.size; omega
        clear hin
        go_wp2_with (fail)
        refine (inside_any (some ⟨ba, oa, none⟩) c1 L x1 x2 true _ (C_of_RdW (hr1.below (hbl.mono (by omega)))) hc1 HIN.out).mono ?_
        rintro e w9 ⟨rfl, hb9⟩
        go_wp2_with (fail)
        go_roundw
        case rel => exact ⟨k + 1, hlt, by go_num, bl_then hbl hb9⟩
        case measure => simp [intOf]; omega
      · have hr1 := hr1.below (hbl.mono (by omega))
        have hbw := bl_then hbw hbl
        have hz3 : w3.heap.size ≤ wr.heap.size := by have := hbl.size; omega
        clear hbl
        go_wp2_with (fail)
        go_loopw [15] (fun i wr' => ∃ k : Nat, k ≤ L.length ∧ i = .int .i64 k ∧ RdW wr' w3.heap.size (some ⟨ba, oa, none⟩) L ∧ Below w.heap.size w wr') (fun i _ => L.length - (intOf i).toNat)
        case atStart => exact ⟨0, Nat.zero_le _, rfl, hr1, hbw⟩
        clear hr1 hbw hz3
        case round =>
          obtain ⟨k2, hkl2, rfl, hrk, hbk⟩ := hrel
          by_cases hk2 : k2 < L.length
          · have hml3 := hrk.1
            obtain ⟨⟨y1, y2⟩, hy⟩ : ∃ y, L.getD k2 (0, 0) = y := ⟨_, rfl⟩
            have HY := Lib.hid hy
            have HRK := Lib.hid hrk
            have HBK := Lib.hid hbk
            clear hy hrk hbk
            go_wp2_with (fail)
            go_loopw [16, 17, 18] (fun vf vt vj wr' => ∃ (f t2 : Bool) (j : Nat), j ≤ l.length ∧ vf = .bool f ∧ vt = .bool t2 ∧ vj = .int .i64 j ∧ (f = true ↔ ∃ q, q < j ∧ (l.getD q (0, 0)).1 = y1) ∧ (t2 = true ↔ ∃ q, q < j ∧ (l.getD q (0, 0)).2 = y2) ∧ RdW wr' w3.heap.size (some ⟨ba, oa, none⟩) L ∧ Below w.heap.size w wr') (fun _ _ j _ => l.length - (intOf j).toNat)
            case atStart => exact ⟨false, false, 0, Nat.zero_le _, rfl, rfl, rfl, by simp, by simp, HRK.out, HBK.out⟩
            clear HRK HBK
            case round =>
              obtain ⟨f, t2, j, hj, rfl, rfl, rfl, hf, ht2, hrj, hbj⟩ := hrel
              by_cases hjt : j < l.length
              · have hbz : b < wr.heap.size := by have := hbj.size; omega
                have q0 := (hbj.cell (p := ⟨b, off + j * 2, none⟩) hbw0).trans (HC.out j hjt).1
                have q1 := (hbj.cell (p := ⟨b, off + j * 2 + 1, none⟩) hbw0).trans (HC.out j hjt).2
                obtain ⟨_, _, e, hz, r0, r1⟩ := hrj.at_ hk2
                cases e
                rw [HY.out] at r0 r1
                generalize hx : l.getD j (0, 0) = x at *
                obtain ⟨x1, x2⟩ := x
                have HX := Lib.hid hx
                have HRJ := Lib.hid hrj
                have HBJ := Lib.hid hbj
                have HF := Lib.hid (any_step Prod.fst hf (x1, x2) hx)
                have HT2 := Lib.hid (any_step Prod.snd ht2 (x1, x2) hx)
                clear hx hrj hbj hf ht2
                cases f
                · cases t2
                  · go_wp2_with (fail)
                    go_quiet (fail)
                    go_wp2_with (fail)
                    go_quiet (fail)
                    go_wp2_with (fail)
                    go_roundw
                    case rel => exact ⟨(x1 == y1), (x2 == y2), j + 1, hjt, by first | rfl | simp, by first | rfl | simp, by go_num, by first | exact HF.out | simpa using HF.out, by first | exact HT2.out | simpa using HT2.out, HRJ.out.keep (fun _ _ => rfl), by first | exact HBJ.out | exact bl_drewN HBJ.out _⟩
                    case measure => simp [intOf]; omega
                  · go_wp2_with (fail)
                    go_quiet (fail)
                    go_wp2_with (fail)
                    go_quiet (fail)
                    go_wp2_with (fail)
                    go_roundw
                    case rel => exact ⟨(x1 == y1), true, j + 1, hjt, by first | rfl | simp, by first | rfl | simp, by go_num, by first | exact HF.out | simpa using HF.out, by first | exact HT2.out | simpa using HT2.out, HRJ.out.keep (fun _ _ => rfl), by first | exact HBJ.out | exact bl_drewN HBJ.out _⟩
                    case measure => simp [intOf]; omega
                · cases t2
                  · go_wp2_with (fail)
                    go_quiet (fail)
                    go_wp2_with (fail)
                    go_quiet (fail)
                    go_wp2_with (fail)
                    go_roundw
                    case rel => exact ⟨true, (x2 == y2), j + 1, hjt, by first | rfl | simp, by first | rfl | simp, by go_num, by first | exact HF.out | simpa using HF.out, by first | exact HT2.out | simpa using HT2.out, HRJ.out.keep (fun _ _ => rfl), by first | exact HBJ.out | exact bl_drewN HBJ.out _⟩
                    case measure => simp [intOf]; omega
                  · go_wp2_with (fail)
                    go_quiet (fail)
                    go_wp2_with (fail)
                    go_quiet (fail)
                    go_wp2_with (fail)
                    go_roundw
                    case rel => exact ⟨true, true, j + 1, hjt, by first | rfl | simp, by first | rfl | simp, by go_num, by first | exact HF.out | simpa using HF.out, by first | exact HT2.out | simpa using HT2.out, HRJ.out.keep (fun _ _ => rfl), by first | exact HBJ.out | exact bl_drewN HBJ.out _⟩
                    case measure => simp [intOf]; omega
              · have hym : (y1, y2) ∈ L := by
                  have := List.getElem_mem (l := L) (n := k2) hk2
                  rwa [← getD_eq L k2 hk2, HY.out] at this
                have hft : f = true := hf.2 (by
                  obtain ⟨z, hz, h⟩ := HFW.out.lo _ hym
                  obtain ⟨q, hq, rfl⟩ := List.mem_iff_getElem.1 hz
                  exact ⟨q, by omega, by rw [getD_eq l q hq]; exact h⟩)
                have htt : t2 = true := ht2.2 (by
                  obtain ⟨z, hz, h⟩ := HFW.out.hi _ hym
                  obtain ⟨q, hq, rfl⟩ := List.mem_iff_getElem.1 hz
                  exact ⟨q, by omega, by rw [getD_eq l q hq]; exact h⟩)
                have HRJ := Lib.hid hrj
                have HBJ := Lib.hid hbj
                clear hf ht2 hrj hbj hym
                subst hft htt
                go_wp2_with (fail)
                go_roundw
                case rel => exact ⟨k2 + 1, hk2, by go_num, HRJ.out, HBJ.out⟩
                case measure => simp [intOf]; omega
          · have HBK := Lib.hid hbk
            clear hrk hbk
            go_wp2_with (fail)
            refine (awake_any _).mono ?_
            rintro e w10 ⟨rfl, hb10⟩
            go_wp2
            go_ret
            exact ⟨rfl, bl_then HBK.out hb10⟩
end Go.Proofs.Ytgpmceimhfkncaa
