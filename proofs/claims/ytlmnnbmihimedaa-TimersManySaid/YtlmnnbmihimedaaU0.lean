/- The walk of the law TimersMany. Conditions: as each theorem states them. -/
import Derived.Test.YtlmnnbmihimedaaT6
import Derived.Test.YtlmnnbmihimedaaF0
import Derived.Laws.BytesArg
namespace Go.Proofs.Ytlmnnbmihimedaa
open Go.RowKit Go.Maps
set_option linter.unusedVariables false
set_option linter.unusedSimpArgs false

/-- The timers that the law puts. -/
def manyX (key : ByteArray) (st : Int) (i : Nat) : Tm := ⟨(wrap64 ((i : Int) * st)).tmod 5003, key, strOfNums [(i : Int) / 256, (i : Int) % 256]⟩
theorem tmod_small (x : Int) : -5003 ≤ x.tmod 5003 ∧ x.tmod 5003 ≤ 5003 := by
  have h := Int.natAbs_tmod x 5003
  have h2 : x.natAbs % 5003 < 5003 := Nat.mod_lt _ (by omega)
  have h3 : (5003 : Int).natAbs = 5003 := rfl
  rw [h3] at h
  omega
theorem many_chk (key : ByteArray) (st : Int) (i : Nat) (hk : key.size ≤ 8) : chkT (manyX key st i) = 0 := by
  unfold chkT manyX
  have := tmod_small (wrap64 ((i : Int) * st))
  dsimp only
  rw [strOfNums_size]
  rw [if_neg]
  simp
  omega
theorem many_inj (key : ByteArray) (st : Int) {i j : Nat} (hi : i < 1024) (hj : j < 1024) (h : manyX key st i = manyX key st j) : i = j := by
  have h1 := congrArg Tm.s h
  simp only [manyX] at h1
  have h2 := congrArg (fun b : ByteArray => b.data.toList) h1
  simp only [strOfNums_data, List.map_cons, List.map_nil, List.cons.injEq, and_true] at h2
  obtain ⟨a, b⟩ := h2
  have a' := congrArg UInt8.toNat a
  have b' := congrArg UInt8.toNat b
  simp only [UInt8.toNat_ofNat'] at a' b'
  omega
def manyT (key : ByteArray) (st : Int) (i : Nat) : List Tm := ((List.range i).map (manyX key st)).reverse
theorem manyT_succ (key : ByteArray) (st : Int) (i : Nat) : manyT key st (i + 1) = manyX key st i :: manyT key st i := by
  simp [manyT, List.range_succ]
theorem manyT_length (key : ByteArray) (st : Int) (i : Nat) : (manyT key st i).length = i := by simp [manyT]
theorem manyT_mem {key : ByteArray} {st : Int} {i : Nat} {x : Tm} (h : x ∈ manyT key st i) : ∃ j, j < i ∧ manyX key st j = x := by
  simp only [manyT, List.mem_reverse, List.mem_map, List.mem_range] at h
  exact h
theorem many_put (key : ByteArray) (st : Int) (i : Nat) (hk : key.size ≤ 8) (hi : i < 1024) : putR (manyT key st i) (manyX key st i) = 0 := by
  have hm : manyX key st i ∉ manyT key st i := fun h => by
    obtain ⟨j, hj, e⟩ := manyT_mem h
    have := many_inj key st (by omega) hi e
    omega
  have hl := manyT_length key st i
  unfold putR
  rw [if_neg (by simp [many_chk key st i hk]), if_neg hm, if_neg (by omega)]
def manyY : Tm := ⟨-1, ⟨#[]⟩, ⟨#[]⟩⟩
theorem manyY_chk : chkT manyY = 0 := by decide
theorem manyY_not {key : ByteArray} {st : Int} {i : Nat} : manyY ∉ manyT key st i := fun h => by
  obtain ⟨j, hj, e⟩ := manyT_mem h
  have h1 := congrArg (fun t : Tm => t.s.size) e
  simp only [manyX, manyY, strOfNums_size] at h1
  cases h1
theorem und49 : Try.prog.underlying 49 = some (.slice 5) := by kernel_rfl
set_option maxRecDepth 100000 in
set_option maxHeartbeats 8000000 in
theorem many_small (key : ByteArray) (by_ : Int) (W : World) (hk : key.size ≤ 8) :
    Calls Try.prog 8 #[.string key, .int .i64 by_] W fun e w' => e = .returned (.bool true) ∧ Below W.heap.size W w' := by
  have hki : ¬ (8 : Int) < (key.size : Int) := by omega
  have HK := Lib.hid hk
  clear hk
  go_enter Try.func8, Try.ntmps8
  go_wp2_with (fail)
  refine (newL W).mono ?_
  rintro e w1 ⟨rfl, hq1, hb1⟩
  have HQ1 := Lib.hid hq1
  have HB1 := Lib.hid hb1
  clear hq1 hb1
  generalize hst : wrap64 (by_.tmod 1000 + 1000) = st
  clear hst
  go_wp2_with (fail)
  go_loopw [7] (fun vi wr => ∃ i : Nat, i ≤ 1024 ∧ vi = .int .i64 i ∧ QL wr W.heap.size (W.heap.size + 1) W.heap.size (manyT key st i) (fun b => W.heap.size ≤ b) ∧ Kw (fun b => W.heap.size ≤ b) W wr) (fun i _ => 1024 - (intOf i).toNat)
  case atStart => exact ⟨0, by omega, rfl, HQ1.out, Kw.ofBelow HB1.out⟩
  case round =>
    obtain ⟨i, hin, rfl, hq, hbl⟩ := hrel
    have HQ := Lib.hid hq
    have HBL := Lib.hid hbl
    have hws := hbl.size
    clear hq hbl
    by_cases hlt : i < 1024
    · have hi0 : (0 : Int) ≤ (i : Int) := by omega
      have hi1 : (i : Int) < 1024 := by omega
      have hconv := run_convert_bytes_arg (P := Try.prog) (wr.alloc (Obj.cells #[Value.int IntKind.u8 ((i : Int) / 256), Value.int IntKind.u8 ((i : Int) % 256)] 5)) 49 5 und49 Try.underlying5 wr.heap.size 0 2 2 [(i : Int) / 256, (i : Int) % 256] rfl (by
        intro j hj
        match j, hj with
        | 0, _ => rw [Nat.zero_add]; go_keep
        | 1, _ => go_keep) 9 Try.underlying9
      go_wp2_with (fail)
      have hp := many_put key st i HK.out hlt
      have hq' := HQ.out.below (bl_alloc (Below.refl _ _) (Obj.cells #[Value.int IntKind.u8 ((i : Int) / 256), Value.int IntKind.u8 ((i : Int) % 256)] 5))
      have hput := putL W.heap.size (W.heap.size + 1) W.heap.size _ (fun b => W.heap.size ≤ b) (manyX key st i) _ hq' (by simp; omega) (fun b hb => by simp at hb; omega)
      rw [hp] at hput
      refine hput.mono ?_
      rintro e w3 ⟨rfl, hq3, hk3⟩
      have hT : putT (manyT key st i) (manyX key st i) = manyT key st (i + 1) := by
        unfold putT
        rw [if_pos hp, manyT_succ]
      rw [hT] at hq3
      have HQ3 := Lib.hid hq3
      have HK3 := Lib.hid ((HBL.out.alloc (Obj.cells #[Value.int IntKind.u8 ((i : Int) / 256), Value.int IntKind.u8 ((i : Int) % 256)] 5)).trans hk3)
      clear hq3 hk3 hT hp hq' hput hconv
      go_wp2_with (fail)
      go_roundw
      case rel => exact ⟨i + 1, by omega, by first | rfl | (push_cast; rfl) | go_num, HQ3.out, HK3.out⟩
      case measure => simp [intOf]; omega
    · have hine : i = 1024 := by omega
      subst hine
      obtain ⟨w2, hw2⟩ : ∃ x, x = wr := ⟨_, rfl⟩
      subst hw2
      go_wp2_with (fail)
      refine (listL _ _ _ _ _ w2 HQ.out).mono ?_
      rintro e w3 ⟨vl, L, rfl, hown, hp, hs, hb3⟩
      have hLl : L.length = 1024 := by rw [hp.length_eq, manyT_length]
      obtain ⟨Al, cl, hvl, _, hR, hOB⟩ := own_rd hown
      subst hvl
      have hs3 := hb3.size
      have HS := Lib.hid hs
      have HP := Lib.hid hp
      have HR := Lib.hid hR
      have HL := Lib.hid hLl
      have HB3 := Lib.hid hb3
      have HQ3 := Lib.hid (HQ.out.bound.below hb3)
      have HGE : Hid (∀ g, (Value.slice Al L.length cl).ownBlock = some g → w2.heap.size ≤ g) := Lib.hid (own_ge hown)
      have HAB : Hid (∀ a, Al = some a → w2.heap.size ≤ a.block) := Lib.hid (fun a ha => HGE.out _ (hOB a ha))
      clear hown hs hp hR hb3 hOB
      rw [hLl]
      clear hLl
      go_wp2_with (fail)
      go_loopw [9] (fun vi wr => ∃ i : Nat, 1 ≤ i ∧ i ≤ 1024 ∧ vi = .int .i64 i ∧ Below w3.heap.size w3 wr) (fun i _ => 1024 - (intOf i).toNat)
      case atStart => exact ⟨1, by omega, by omega, rfl, Below.refl _ _⟩
      case round =>
        obtain ⟨j1, hj1, hjn, rfl, hbl⟩ := hrel
        obtain ⟨j, rfl⟩ : ∃ j, j1 = j + 1 := ⟨j1 - 1, by omega⟩
        have HBL2 := Lib.hid hbl
        have hws2 := hbl.size
        by_cases hlt2 : j + 1 < 1024
        · obtain ⟨bk, off, rfl, hbk, _, hc⟩ := HR.out (by rw [HL.out]; omega)
          obtain ⟨a0, a1, a2⟩ := hc (j + 1) (by rw [HL.out]; omega)
          obtain ⟨p0, p1, p2⟩ := hc j (by rw [HL.out]; omega)
          have hlo := pair_getD HS.out (Nat.lt_succ_self j) (by rw [HL.out]; exact hlt2)
          have a0 := (hbl.cell (p := ⟨bk, off + (j + 1) * 3, none⟩) hbk).trans a0
          have a1 := (hbl.cell (p := ⟨bk, off + (j + 1) * 3 + 1, none⟩) hbk).trans a1
          have a2 := (hbl.cell (p := ⟨bk, off + (j + 1) * 3 + 2, none⟩) hbk).trans a2
          have p0 := (hbl.cell (p := ⟨bk, off + j * 3, none⟩) hbk).trans p0
          have p1 := (hbl.cell (p := ⟨bk, off + j * 3 + 1, none⟩) hbk).trans p1
          have p2 := (hbl.cell (p := ⟨bk, off + j * 3 + 2, none⟩) hbk).trans p2
          have hlb : bk < wr.heap.size := by omega
          generalize L.getD j zeroT = y at *
          generalize L.getD (j + 1) zeroT = x at *
          have hcm : cmpT y x = -1 := cmpT_less hlo
          have HCM : Hid (∀ w, Calls Try.prog 14 #[.agg #[.int .i64 y.t, .string y.k, .string y.s], .agg #[.int .i64 x.t, .string x.k, .string x.s]] w fun e w' => e = .returned (.int .i64 (-1)) ∧ Below w.heap.size w w') := Lib.hid fun w => hcm ▸ refcmp_any y x w
          have hj0 : (0 : Int) ≤ (j : Int) := by omega
          have hj1' : (j : Int) < 1024 := by omega
          have hj2' : (j : Int) + 1 < 1024 := by omega
          have hjp : (0 : Int) ≤ (j : Int) + 1 := by omega
          have hjw : IntKind.i64.wrap ((j : Int) + 1 - 1) = (j : Int) := by rw [IntKind.wrap_i64]; omega
          clear hc hbl hlo hcm
          have e0 := ext_cell a0
          have e1 := ext_cell a1
          have e2 := ext_cell a2
          have f0 := ext_cell p0
          have f1 := ext_cell p1
          have f2 := ext_cell p2
          go_wp2_with (fail)
          refine wp_region_ext (by kernel_rfl) (by kernel_rfl) ?_
          repeat (go_big_quiet_step ((go_at_call 14; exact ext_calls (HCM.out _))))
          refine wpQuiet_nil ?_
          rintro w9 ⟨⟨_, hb9⟩, rfl⟩
          have HB9 := Lib.hid (bl_then HBL2.out hb9)
          clear hb9 e0 e1 e2 f0 f1 f2 hjw
          go_wp2_with (fail)
          go_roundw
          case rel => exact ⟨j + 1 + 1, by omega, by omega, by first | rfl | (push_cast; rfl) | go_num, HB9.out⟩
          case measure => simp [intOf]; omega
        · have hje : j = 1023 := by omega
          subst hje
          have HQ4 := Lib.hid (HQ3.out.below HBL2.out)
          have HR4 := Lib.hid (HR.out.below HBL2.out)
          clear hbl
          go_wp2_with (fail)
          have hlen := lenL _ _ _ _ _ wr HQ4.out
          rw [manyT_length] at hlen
          refine hlen.mono ?_
          rintro e _ ⟨rfl, rfl⟩
          clear hlen
          go_wp2_with (fail)
          obtain ⟨bk, off, hAl, hbk, _, hc⟩ := HR4.out (by rw [HL.out]; omega)
          have hge := HAB.out _ hAl
          dsimp only at hge
          subst hAl
          obtain ⟨a0, a1, a2⟩ := hc 7 (by rw [HL.out]; omega)
          have hx7 : L.getD 7 zeroT ∈ manyT key st 1024 := HP.out.mem_iff.1 (getD_memT (by rw [HL.out]; omega))
          generalize L.getD 7 zeroT = x at *
          have HX7 := Lib.hid hx7
          have hxc : chkT x = 0 := HQ4.out.ok x hx7
          have HXC := Lib.hid hxc
          clear hc hx7 hxc
          have HF4 : Hid (∀ (w : World), wr.heap.size ≤ w.heap.size → ∀ b, w.heap.size ≤ b → ((W.heap.size ≤ b ∧ b < w2.heap.size) ∨ wr.heap.size ≤ b)) := Lib.hid (fun w hw b hb => .inr (by omega))
          have HNB : Hid (¬ ((W.heap.size ≤ bk ∧ bk < w2.heap.size) ∨ wr.heap.size ≤ bk)) := Lib.hid (by omega)
          have HQ5 := Lib.hid (HQ4.out.mono (G := fun b => (W.heap.size ≤ b ∧ b < w2.heap.size) ∨ wr.heap.size ≤ b) (fun b hb => .inl hb))
          have hWr : W.heap.size ≤ wr.heap.size := by omega
          have hbkr : bk < wr.heap.size := by omega
          have hr1 : putR (manyT key st 1024) manyY = 3 := by
            unfold putR
            rw [if_neg (by simp [manyY_chk]), if_neg manyY_not, if_pos (by rw [manyT_length]; omega)]
          have hp1 := putL _ _ _ _ _ manyY wr HQ5.out hWr (HF4.out wr (Nat.le_refl _))
          have ht1 : putT (manyT key st 1024) manyY = manyT key st 1024 := by unfold putT; rw [hr1]; simp
          rw [hr1, ht1] at hp1
          refine hp1.mono ?_
          rintro e w5 ⟨rfl, hq5, hk5⟩
          have hs5 := hk5.size
          have b0 := (hk5.cell hbkr HNB.out).trans a0
          have b1 := (hk5.cell hbkr HNB.out).trans a1
          have b2 := (hk5.cell hbkr HNB.out).trans a2
          have HQ6 := Lib.hid hq5
          have HK5 := Lib.hid hk5
          have hbk5 : bk < w5.heap.size := by omega
          clear hp1 hr1 ht1 hq5 hk5 a0 a1 a2
          go_wp2_with (fail)
          have hr2 : putR (manyT key st 1024) x = 5 := by
            unfold putR
            rw [if_neg (by simp [HXC.out]), if_pos HX7.out]
          have hp2 := putL _ _ _ _ _ x w5 HQ6.out (by omega) (HF4.out w5 hs5)
          have ht2 : putT (manyT key st 1024) x = manyT key st 1024 := by unfold putT; rw [hr2]; simp
          rw [hr2, ht2] at hp2
          refine hp2.mono ?_
          rintro e w6 ⟨rfl, hq6, hk6⟩
          have hs6 := hk6.size
          have d0 := (hk6.cell hbk5 HNB.out).trans b0
          have d1 := (hk6.cell hbk5 HNB.out).trans b1
          have d2 := (hk6.cell hbk5 HNB.out).trans b2
          have HQ7 := Lib.hid hq6
          have HK6 := Lib.hid hk6
          have hbk6 : bk < w6.heap.size := by omega
          clear hp2 hr2 ht2 hq6 hk6 b0 b1 b2
          go_wp2_with (fail)
          have hr3 : dropR (manyT key st 1024) x = 0 := by
            unfold dropR
            rw [if_neg (by simp [HXC.out]), if_pos HX7.out]
          have hp3 := dropL _ _ _ _ _ x w6 HQ7.out
          rw [hr3] at hp3
          refine hp3.mono ?_
          rintro e w7 ⟨rfl, hk7, T', hq7, hT'⟩
          have hs7 := hk7.size
          have hTp : (manyT key st 1024).Perm (x :: T') := by
            rcases hT' with h | h
            · exact h.2
            · exact absurd rfl h.1
          have HQ8 := Lib.hid hq7
          have HK7 := Lib.hid hk7
          have HTP := Lib.hid hTp
          clear hp3 hr3 hq7 hk7 hT' hTp d0 d1 d2
          go_wp2_with (fail)
          have hr4 : putR T' manyY = 0 := by
            have hl : T'.length = 1023 := by
              have := HTP.out.length_eq
              rw [manyT_length, List.length_cons] at this
              omega
            have hm : manyY ∉ T' := fun h => manyY_not (HTP.out.mem_iff.2 (List.mem_cons_of_mem _ h))
            unfold putR
            rw [if_neg (by simp [manyY_chk]), if_neg hm, if_neg (by omega)]
          have hp4 := putL _ _ _ _ _ manyY w7 HQ8.out (by omega) (HF4.out w7 (by omega))
          rw [hr4] at hp4
          refine hp4.mono ?_
          rintro e w8 ⟨rfl, hq8, hk8⟩
          have HK8 := Lib.hid hk8
          clear hp4 hr4 hq8 hk8
          go_wp2_with (fail)
          refine (awake_any _).mono ?_
          rintro e w9 ⟨rfl, hb9⟩
          go_wp2_with (fail)
          go_ret
          refine ⟨rfl, ?_⟩
          have k4 : ∀ {a b : World}, Kw (fun b => (W.heap.size ≤ b ∧ b < w2.heap.size) ∨ wr.heap.size ≤ b) a b → Kw (fun b => W.heap.size ≤ b) a b := fun h => h.mono (fun b _ h => by rcases h with h | h <;> omega)
          have k1 : Kw (fun b => W.heap.size ≤ b) W wr := (HBL.out.trans (Kw.ofBelow HB3.out)).trans (Kw.ofBelow HBL2.out)
          exact (((((k1.trans (k4 HK5.out)).trans (k4 HK6.out)).trans (k4 HK7.out)).trans (k4 HK8.out)).trans (Kw.ofBelow hb9)).below (Nat.le_refl _) (fun b h => h)
set_option maxHeartbeats 1000000 in
theorem many_walk (key : ByteArray) (by_ : Int) (W : World) (hk : key.size ≤ 140737488351232) (hw : (Lit.int .i64 by_).wf = true) :
    Calls Try.prog 8 #[.string key, .int .i64 by_] W fun e w' => e = .returned (.bool true) ∧ Below W.heap.size W w' := by
  by_cases hn : key.size ≤ 8
  · exact many_small key by_ W hn
  · have hni : (8 : Int) < (key.size : Int) := by omega
    have hni' : 8 < key.size := by omega
    go_enter Try.func8, Try.ntmps8
    go_wp2_with (fail)
    refine (awake_any _).mono ?_
    rintro e w1 ⟨rfl, hb1⟩
    go_wp2_with (fail)
    go_ret
    exact ⟨rfl, hb1⟩
end Go.Proofs.Ytlmnnbmihimedaa
