/- The walk of the law TimersAny. Conditions: as each theorem states them. -/
import Derived.Test.YtlmnnbmihimedaaT5
namespace Go.Proofs.Ytlmnnbmihimedaa
open Go.RowKit Go.Maps
set_option linter.unusedVariables false
set_option linter.unusedSimpArgs false

theorem drop_mem {T T' : List Tm} {x : Tm} (hnd : T.Nodup) (hok : ∀ y ∈ T, chkT y = 0) (h : (dropR T x = 0 ∧ T.Perm (x :: T')) ∨ (dropR T x ≠ 0 ∧ T' = T)) (y : Tm) : y ∈ T' ↔ y ∈ T ∧ y ≠ x := by
  rcases h with ⟨_, hp⟩ | ⟨hr, rfl⟩
  · have hnd2 := List.nodup_cons.1 (hp.nodup_iff.1 hnd)
    rw [hp.mem_iff, List.mem_cons]
    constructor
    · intro h
      exact ⟨.inr h, fun e => hnd2.1 (e ▸ h)⟩
    · rintro ⟨h | h, hne⟩
      · exact absurd h hne
      · exact h
  · have hx : x ∉ T' := fun hm => by
      apply hr
      unfold dropR
      rw [if_neg (by simp [hok x hm]), if_pos hm]
    exact ⟨fun h => ⟨h, fun e => hx (e ▸ h)⟩, fun h => h.1⟩
theorem mem_take_snoc {l : List Tm} {i : Nat} (h : i < l.length) (y : Tm) : y ∈ l.take (i + 1) ↔ y ∈ l.take i ∨ y = l.getD i zeroT := by
  rw [take_snocT h]
  simp
theorem tm_parts {t1 : Int} {k1 s1 : ByteArray} {t2 : Int} {k2 s2 : ByteArray} (h : (⟨t1, k1, s1⟩ : Tm) ≠ ⟨t2, k2, s2⟩) : (¬ t1 = t2) ∨ (t2 = t1 ∧ (k1.toList == k2.toList) = false) ∨ (t2 = t1 ∧ k2 = k1 ∧ (s1.toList == s2.toList) = false) := by
  by_cases ht : t1 = t2
  · subst ht
    by_cases hk : k1 = k2
    · subst hk
      have hs : ¬ s1 = s2 := fun e => h (by rw [e])
      exact .inr (.inr ⟨rfl, rfl, beq_false_of_ne (fun e => hs (toL_inj e))⟩)
    · exact .inr (.inl ⟨rfl, beq_false_of_ne (fun e => hk (toL_inj e))⟩)
  · exact .inl ht
set_option maxRecDepth 100000 in
set_option maxHeartbeats 8000000 in
theorem any_small (A : Option Addr) (n c : Nat) (l : List Tm) (A' : Option Addr) (n' c' : Nat) (l' : List Tm) (W : World) (hl : l.length = n) (hA : RdT W W.heap.size A l) (hn : n ≤ 200) (hl' : l'.length = n') (hA' : RdT W W.heap.size A' l') (hn' : n' ≤ 200) :
    Calls Try.prog 10 #[.slice A n c, .slice A' n' c'] W fun e w' => e = .returned (.bool true) ∧ Below W.heap.size W w' := by
  have hni : ¬ (200 : Int) < (n : Int) := by omega
  have hni' : ¬ (200 : Int) < (n' : Int) := by omega
  have HA := Lib.hid hA
  have HLN := Lib.hid hl
  have HA' := Lib.hid hA'
  have HLN' := Lib.hid hl'
  clear hA hl hA' hl'
  go_enter Try.func10, Try.ntmps10
  go_wp2_with (fail)
  refine (filled_any A n c l W HLN.out (by omega) HA.out).mono ?_
  rintro e w1 ⟨rfl, hq1, hb1⟩
  have HP1 := Lib.hid hq1.bound
  have HB1 := Lib.hid hb1
  have hs1 := hb1.size
  clear hq1 hb1
  go_wp2_with (fail)
  refine (filled_any A' n' c' l' w1 HLN'.out (by omega) ((HA'.out.below HB1.out).more hs1 (Nat.le_refl _))).mono ?_
  rintro e w2 ⟨rfl, hq2, hb2⟩
  have HQ2 := Lib.hid hq2
  have HB2 := Lib.hid hb2
  have hs2 := hb2.size
  have HP2 := Lib.hid (HP1.out.below HB2.out)
  have HA2 := Lib.hid ((HA.out.below HB1.out).below HB2.out)
  have HA2' := Lib.hid ((HA'.out.below HB1.out).below HB2.out)
  clear hq2 hb2
  go_wp2_with (fail)
  go_loopw [7] (fun vi wr => ∃ i : Nat, i ≤ n ∧ vi = .int .i64 i ∧ QL wr w1.heap.size (w1.heap.size + 1) w1.heap.size (putAll (putAll [] l') (l.reverse.take i)) (fun b => w1.heap.size ≤ b) ∧ Kw (fun b => w1.heap.size ≤ b) w2 wr) (fun i _ => n - (intOf i).toNat)
  case atStart => exact ⟨0, Nat.zero_le _, rfl, HQ2.out, Kw.refl _ _⟩
  case round =>
    obtain ⟨i, hin, rfl, hq, hbl⟩ := hrel
    have HBL := Lib.hid hbl
    have HQ := Lib.hid hq
    have hws := hbl.size
    clear hq
    by_cases hlt : i < n
    · obtain ⟨p, hp⟩ : ∃ p, n = p + 1 + i := ⟨n - 1 - i, by omega⟩
      have hp0 : (0 : Int) ≤ (p : Int) := by omega
      have hp1 : (p : Int) < (n : Int) := by omega
      have hi0 : (0 : Int) ≤ (i : Int) := by omega
      have hi1 : (i : Int) < (n : Int) := by omega
      have hix : (n : Int) - 1 - (i : Int) = (p : Int) := by omega
      obtain ⟨b, off, rfl, hb, _, hc⟩ := HA2.out (by rw [HLN.out]; omega)
      obtain ⟨a0, a1, a2⟩ := hc p (by rw [HLN.out]; omega)
      have hts := take_snocT (l := l.reverse) (i := i) (by rw [List.length_reverse, HLN.out]; exact hlt)
      rw [rev_getD (p := p) (by rw [HLN.out]; exact hp)] at hts
      generalize l.getD p zeroT = x at *
      have hbw2 : b < w2.heap.size := by omega
      have a0 := (hbl.cell (b := b) (i := off + p * 3) hbw2 (by omega)).trans a0
      have a1 := (hbl.cell (b := b) (i := off + p * 3 + 1) hbw2 (by omega)).trans a1
      have a2 := (hbl.cell (b := b) (i := off + p * 3 + 2) hbw2 (by omega)).trans a2
      have hlb : b < wr.heap.size := by omega
      have HTS := Lib.hid hts
      have HP := Lib.hid hp
      clear hc hbl hts hp
      go_wp2_with (fail)
      refine (putL w1.heap.size (w1.heap.size + 1) w1.heap.size _ (fun b => w1.heap.size ≤ b) x wr HQ.out (by omega) (fun b hb => by omega)).mono ?_
      rintro e w3 ⟨rfl, hq3, hk3⟩
      have HQ3 := Lib.hid hq3
      have HK3 := Lib.hid hk3
      clear hq3 hk3
      go_wp2_with (fail)
      go_roundw
      case rel => exact ⟨i + 1, by omega, by first | rfl | (push_cast; rfl) | go_num, by rw [HTS.out, putAll_snoc]; exact HQ3.out, HBL.out.trans HK3.out⟩
      case measure => simp [intOf]; omega
    · have hine : i = n := by omega
      subst hine
      have hq3 := HQ.out
      rw [List.take_of_length_le (by rw [List.length_reverse, HLN.out]; omega)] at hq3
      obtain ⟨w3, hw3⟩ : ∃ x, x = wr := ⟨_, rfl⟩
      subst hw3
      have HQ3 := Lib.hid hq3.bound
      have HP3 := Lib.hid (HP2.out.kw HBL.out (fun b h1 _ h2 => by have := h1.2; omega))
      have HA3' := Lib.hid (HA2'.out.kw HBL.out (fun b hb h => by omega))
      clear hq3 hbl HQ
      go_wp2_with (fail)
      refine (listL _ _ _ _ _ w3 HP3.out).mono ?_
      rintro e w4 ⟨vw, want, rfl, hownw, hpw, hsw, hb4⟩
      obtain ⟨Aw, cw, hvw, hcw, hRw, hbw⟩ := own_rd hownw
      subst hvw
      have hs4 := hb4.size
      have HB4 := Lib.hid hb4
      have HPW := Lib.hid hpw
      have HSW := Lib.hid hsw
      have HQ4 := Lib.hid (HQ3.out.below HB4.out)
      have HP4 := Lib.hid (HP3.out.below HB4.out)
      have HA4' := Lib.hid (HA3'.out.below HB4.out)
      have HRW4 : Hid (RdT w4 w4.heap.size Aw want) := Lib.hid hRw
      have HGE : Hid (∀ g, (Value.slice Aw want.length cw).ownBlock = some g → w3.heap.size ≤ g) := Lib.hid (own_ge hownw)
      have HBW : Hid (∀ a, Aw = some a → w3.heap.size ≤ a.block) := Lib.hid (fun a ha => HGE.out _ (hbw a ha))
      have hwl : want.length ≤ 1024 := by have := hpw.length_eq; have := HP3.out.length; omega
      have hspec : (putAll (putAll [] l') l.reverse).Nodup ∧ ∀ y, y ∈ putAll (putAll [] l') l.reverse ↔ (y ∈ l' ∧ chkT y = 0) ∨ (y ∈ l ∧ chkT y = 0) := by
        obtain ⟨s1, s2, s3⟩ := putAll_spec l' [] (by simp; rw [HLN'.out]; omega) List.nodup_nil
        obtain ⟨t1, t2, t3⟩ := putAll_spec l.reverse (putAll [] l') (by have := HLN.out; have := HLN'.out; simp at s2 ⊢; omega) s1
        refine ⟨t1, fun y => ?_⟩
        rw [t3, s3]
        simp
      have hspw : ∀ y, y ∈ want ↔ y ∈ l ∧ chkT y = 0 := fun y => by
        obtain ⟨s1, s2, s3⟩ := putAll_spec l [] (by simp; rw [HLN.out]; omega) List.nodup_nil
        rw [hpw.mem_iff, s3]
        simp
      have HSP := Lib.hid hspec
      have HSPW := Lib.hid hspw
      obtain ⟨nw, hnw⟩ : ∃ nw, want.length = nw := ⟨_, rfl⟩
      rw [hnw] at hwl ⊢
      have HNW := Lib.hid hnw
      clear hownw hpw hsw hRw hb4 hspec hspw hnw hcw hbw
      go_wp2_with (fail)
      go_loopw [9] (fun vi wr => ∃ (i : Nat) (T : List Tm), i ≤ n' ∧ vi = .int .i64 i ∧ QL wr w1.heap.size (w1.heap.size + 1) w1.heap.size T (fun b => w1.heap.size ≤ b ∧ b < w3.heap.size) ∧ (∀ y, y ∈ T ↔ y ∈ putAll (putAll [] l') l.reverse ∧ ¬ (y ∈ l'.take i ∧ y ∉ want)) ∧ Kw (fun b => w1.heap.size ≤ b ∧ b < w3.heap.size) w4 wr) (fun i _ => n' - (intOf i).toNat)
      case atStart => exact ⟨0, _, Nat.zero_le _, rfl, HQ4.out, fun y => by simp, Kw.refl _ _⟩
      case round =>
        obtain ⟨j, T, hjn, rfl, hq, hT, hbl⟩ := hrel
        have HBL5 := Lib.hid hbl
        have HQ5 := Lib.hid hq
        have HT := Lib.hid hT
        have hws5 := hbl.size
        clear hq hT
        by_cases hlt5 : j < n'
        · have hj0 : (0 : Int) ≤ (j : Int) := by omega
          have hj1 : (j : Int) < (n' : Int) := by omega
          obtain ⟨bo, ofo, rfl, hbo, _, hco⟩ := HA4'.out (by rw [HLN'.out]; omega)
          obtain ⟨x0, x1, x2⟩ := hco j (by rw [HLN'.out]; exact hlt5)
          have hts := mem_take_snoc (l := l') (i := j) (by rw [HLN'.out]; exact hlt5)
          generalize l'.getD j zeroT = x at *
          have hbo4 : bo < w4.heap.size := by omega
          have x0 := (hbl.cell (b := bo) (i := ofo + j * 3) hbo4 (by omega)).trans x0
          have x1 := (hbl.cell (b := bo) (i := ofo + j * 3 + 1) hbo4 (by omega)).trans x1
          have x2 := (hbl.cell (b := bo) (i := ofo + j * 3 + 2) hbo4 (by omega)).trans x2
          obtain ⟨wi, hwi⟩ : ∃ x, x = wr := ⟨_, rfl⟩
          subst hwi
          have hbow : bo < wi.heap.size := by omega
          have HTS := Lib.hid hts
          have HRW : Hid (0 < want.length → ∃ b off, Aw = some ⟨b, off, none⟩ ∧ b < wi.heap.size ∧ ∀ i, i < want.length → wi.cell? ⟨b, off + i * 3, none⟩ = some (.int .i64 (want.getD i zeroT).t) ∧ wi.cell? ⟨b, off + i * 3 + 1, none⟩ = some (.string (want.getD i zeroT).k) ∧ wi.cell? ⟨b, off + i * 3 + 2, none⟩ = some (.string (want.getD i zeroT).s)) := Lib.hid (fun h0 => by
            obtain ⟨b, off, e, hb, _, hc⟩ := HRW4.out h0
            have hge := HBW.out _ e
            refine ⟨b, off, e, by omega, fun i hi => ?_⟩
            obtain ⟨u0, u1, u2⟩ := hc i hi
            have hns : ¬ (w1.heap.size ≤ b ∧ b < w3.heap.size) := fun h => by have := h.2; dsimp only at hge; omega
            exact ⟨(HBL5.out.cell hb hns).trans u0, (HBL5.out.cell hb hns).trans u1, (HBL5.out.cell hb hns).trans u2⟩)
          have X0 := Lib.hid x0
          have X1 := Lib.hid x1
          have X2 := Lib.hid x2
          clear hco hbl hts x0 x1 x2
          go_wp2_with (fail)
          go_loopw [10, 11] (fun vf vk wr => ∃ (kk : Nat) (f : Bool), kk ≤ nw ∧ vk = .int .i64 kk ∧ vf = .bool f ∧ (f = true ↔ x ∈ want.take kk) ∧ Below wi.heap.size wi wr) (fun _ k _ => nw - (intOf k).toNat)
          case atStart => exact ⟨0, false, Nat.zero_le _, rfl, rfl, by simp, Below.refl _ _⟩
          case round =>
            obtain ⟨kk, f, hkn, rfl, rfl, hf, hblk⟩ := hrel
            have HBLk := Lib.hid hblk
            have HF := Lib.hid hf
            have hwsk := hblk.size
            by_cases hlk : kk < nw
            · have hk0 : (0 : Int) ≤ (kk : Int) := by omega
              have hk1 : (kk : Int) < (nw : Int) := by omega
              obtain ⟨bk, ofk, rfl, hbk, hck⟩ := HRW.out (by rw [HNW.out]; omega)
              obtain ⟨a0, a1, a2⟩ := hck kk (by rw [HNW.out]; exact hlk)
              have hmt := mem_take_snoc (l := want) (i := kk) (by rw [HNW.out]; exact hlk)
              generalize want.getD kk zeroT = y at *
              have a0 := (hblk.cell (p := ⟨bk, ofk + kk * 3, none⟩) hbk).trans a0
              have a1 := (hblk.cell (p := ⟨bk, ofk + kk * 3 + 1, none⟩) hbk).trans a1
              have a2 := (hblk.cell (p := ⟨bk, ofk + kk * 3 + 2, none⟩) hbk).trans a2
              have d0 := (hblk.cell (p := ⟨bo, ofo + j * 3, none⟩) hbow).trans X0.out
              have d1 := (hblk.cell (p := ⟨bo, ofo + j * 3 + 1, none⟩) hbow).trans X1.out
              have d2 := (hblk.cell (p := ⟨bo, ofo + j * 3 + 2, none⟩) hbow).trans X2.out
              have hlb : bk < wr.heap.size := by omega
              have hlbo : bo < wr.heap.size := by omega
              have HMT := Lib.hid hmt
              clear hck hblk hf hmt
              cases f
              · have hfk : x ∉ want.take kk := fun h => by have := HF.out.2 h; cases this
                have HFK := Lib.hid hfk
                clear hfk
                by_cases hyx : y = x
                · subst hyx
                  have HM : Hid (y ∈ want.take (kk + 1)) := Lib.hid ((HMT.out y).2 (.inr rfl))
                  go_wp2_with (fail)
                  go_quiet (fail)
                  have hbn := bl_drewN HBLk.out nq
                  have HBN := Lib.hid hbn
                  clear hbn
                  go_wp2_with (fail)
                  go_roundw
                  case rel => exact ⟨kk + 1, true, by omega, by first | rfl | (push_cast; rfl) | go_num, by first | rfl | simp, (iff_of_true rfl (HM.out)), HBN.out⟩
                  case measure => simp [intOf]; omega
                · have HM : Hid (false = true ↔ x ∈ want.take (kk + 1)) := Lib.hid (by
                    simp only [Bool.false_eq_true, false_iff]
                    intro h
                    rcases (HMT.out x).1 h with h | h
                    · exact HFK.out h
                    · exact hyx h.symm)
                  obtain ⟨yt, yk, ys⟩ := y
                  obtain ⟨xt, xk, xs⟩ := x
                  dsimp only at *
                  rcases tm_parts hyx with hne | ⟨rfl, hne⟩ | ⟨rfl, rfl, hne⟩
                  · clear hyx
                    go_wp2_with (fail)
                    go_quiet (fail)
                    have hbn := bl_drewN HBLk.out nq
                    have HBN := Lib.hid hbn
                    clear hbn
                    go_wp2_with (fail)
                    go_roundw
                    case rel => exact ⟨kk + 1, false, by omega, by first | rfl | (push_cast; rfl) | go_num, by first | rfl | simp, HM.out, HBN.out⟩
                    case measure => simp [intOf]; omega
                  · clear hyx
                    go_wp2_with (fail)
                    go_quiet (fail)
                    have hbn := bl_drewN HBLk.out nq
                    have HBN := Lib.hid hbn
                    clear hbn
                    go_wp2_with (fail)
                    go_roundw
                    case rel => exact ⟨kk + 1, false, by omega, by first | rfl | (push_cast; rfl) | go_num, by first | rfl | simp, HM.out, HBN.out⟩
                    case measure => simp [intOf]; omega
                  · clear hyx
                    go_wp2_with (fail)
                    go_quiet (fail)
                    have hbn := bl_drewN HBLk.out nq
                    have HBN := Lib.hid hbn
                    clear hbn
                    go_wp2_with (fail)
                    go_roundw
                    case rel => exact ⟨kk + 1, false, by omega, by first | rfl | (push_cast; rfl) | go_num, by first | rfl | simp, HM.out, HBN.out⟩
                    case measure => simp [intOf]; omega
              · have HM : Hid (x ∈ want.take (kk + 1)) := Lib.hid ((HMT.out x).2 (.inl (HF.out.1 rfl)))
                go_wp2_with (fail)
                go_quiet (fail)
                have hbn := bl_drewN HBLk.out nq
                have HBN := Lib.hid hbn
                clear hbn
                go_wp2_with (fail)
                go_roundw
                case rel => exact ⟨kk + 1, true, by omega, by first | rfl | (push_cast; rfl) | go_num, by first | rfl | simp, (iff_of_true rfl (HM.out)), HBN.out⟩
                case measure => simp [intOf]; omega
            · have hkk : kk = nw := by omega
              subst hkk
              have hff : f = true ↔ x ∈ want := by
                have := HF.out
                rwa [List.take_of_length_le (by rw [HNW.out]; omega)] at this
              have HFF := Lib.hid hff
              have x0 := (hblk.cell (p := ⟨bo, ofo + j * 3, none⟩) hbow).trans X0.out
              have x1 := (hblk.cell (p := ⟨bo, ofo + j * 3 + 1, none⟩) hbow).trans X1.out
              have x2 := (hblk.cell (p := ⟨bo, ofo + j * 3 + 2, none⟩) hbow).trans X2.out
              have hlbo : bo < wr.heap.size := by omega
              have HQ6 := Lib.hid (HQ5.out.below HBLk.out)
              have HK6 := Lib.hid (HBL5.out.trans (Kw.ofBelow (S := fun b => w1.heap.size ≤ b ∧ b < w3.heap.size) HBLk.out))
              clear hf hblk hff
              cases f
              · have hxn : x ∉ want := fun h => by have := HFF.out.2 h; cases this
                have HXN := Lib.hid hxn
                clear hxn
                go_wp2_with (fail)
                refine (dropL _ _ _ _ _ x wr HQ6.out).mono ?_
                rintro e w7 ⟨rfl, hk7, T', hq7, hT'⟩
                have HK7 := Lib.hid hk7
                have HQ7 := Lib.hid hq7
                have HD := Lib.hid (drop_mem HQ6.out.nodup HQ6.out.ok hT')
                clear hk7 hq7 hT'
                go_wp2_with (fail)
                go_roundw
                case rel => exact ⟨j + 1, T', by omega, by first | rfl | (push_cast; rfl) | go_num, HQ7.out, fun y => by
                    rw [HD.out, HT.out, HTS.out]
                    constructor
                    · rintro ⟨⟨h1, h2⟩, h3⟩
                      exact ⟨h1, fun h => h.1.elim (fun h4 => h2 ⟨h4, h.2⟩) h3⟩
                    · rintro ⟨h1, h2⟩
                      exact ⟨⟨h1, fun h => h2 ⟨.inl h.1, h.2⟩⟩, fun e => h2 ⟨.inr e, e ▸ HXN.out⟩⟩, HK6.out.trans HK7.out⟩
                case measure => simp [intOf]; omega
              · have hxn : x ∈ want := HFF.out.1 rfl
                have HXN := Lib.hid hxn
                clear hxn
                go_wp2_with (fail)
                go_roundw
                case rel => exact ⟨j + 1, T, by omega, by first | rfl | (push_cast; rfl) | go_num, HQ6.out, fun y => by
                    rw [HT.out, HTS.out]
                    constructor
                    · rintro ⟨h1, h2⟩
                      exact ⟨h1, fun h => h.1.elim (fun h4 => h2 ⟨h4, h.2⟩) (fun e => h.2 (e ▸ HXN.out))⟩
                    · rintro ⟨h1, h2⟩
                      exact ⟨h1, fun h => h2 ⟨.inl h.1, h.2⟩⟩, HK6.out⟩
                case measure => simp [intOf]; omega
        · have hjj : j = n' := by omega
          subst hjj
          have hTw : T.Perm want := by
            refine (List.perm_ext_iff_of_nodup HQ5.out.nodup (HPW.out.nodup_iff.2 HP3.out.nodup)).2 fun y => ?_
            rw [HT.out, HSP.out.2, HSPW.out, List.take_of_length_le (by rw [HLN'.out]; omega)]
            constructor
            · rintro ⟨h1, h2⟩
              rcases h1 with h1 | h1
              · by_cases hw : y ∈ want
                · exact (HSPW.out y).1 hw
                · exact absurd ⟨h1.1, by rw [← HSPW.out]; exact hw⟩ h2
              · exact h1
            · intro h1
              exact ⟨.inr h1, fun h2 => h2.2 h1⟩
          have HTW := Lib.hid hTw
          have HP5 := Lib.hid (HP4.out.kw HBL5.out (fun b h1 _ h2 => by have := h1.2; have := h2.1; omega))
          have HRW5 : Hid (RdT wr wr.heap.size Aw want) := Lib.hid (fun h0 => by
            obtain ⟨b, off, e, hb, _, hc⟩ := HRW4.out h0
            have hge := HBW.out _ e
            refine ⟨b, off, e, by omega, Nat.le_refl _, fun i hi => ?_⟩
            obtain ⟨u0, u1, u2⟩ := hc i hi
            have hns : ¬ (w1.heap.size ≤ b ∧ b < w3.heap.size) := fun h => by have := h.2; dsimp only at hge; omega
            exact ⟨(HBL5.out.cell hb hns).trans u0, (HBL5.out.cell hb hns).trans u1, (HBL5.out.cell hb hns).trans u2⟩)
          clear hbl hTw
          go_wp2_with (fail)
          refine (listL _ _ _ _ _ wr HQ5.out).mono ?_
          rintro e w8 ⟨vq, Lq, rfl, hownq, hpq, hsq, hb8⟩
          have hLL : Lq = want := sorted_eq (hpq.trans HTW.out) hsq HSW.out
          subst hLL
          obtain ⟨Aq, cq, hvq, _, hRq, _⟩ := own_rd hownq
          subst hvq
          have hs8 := hb8.size
          have HB8 := Lib.hid hb8
          have HRq := Lib.hid hRq
          have HRw8 := Lib.hid ((HRW5.out.below hb8).more hs8 (Nat.le_refl _))
          rw [HNW.out]
          clear hownq hpq hsq hRq hb8
          go_wp2_with (fail)
          refine (same_eq Aq Aw nw cq cw Lq w8 HNW.out (by omega) HRq.out HRw8.out).mono ?_
          rintro e w9 ⟨rfl, hb9⟩
          have HB9 := Lib.hid hb9
          have hplen : (putAll [] l).length = nw := by have := HPW.out.length_eq; rw [HNW.out] at this; exact this.symm
          have HLP := Lib.hid (lenL _ _ _ _ _ w9 ((HP5.out.below HB8.out).below HB9.out))
          rw [hplen] at HLP
          clear hb9 hplen
          go_wp2_with (fail)
          refine HLP.out.mono ?_
          rintro e _ ⟨rfl, rfl⟩
          go_wp2_with (fail)
          refine (awake_any _).mono ?_
          rintro e w10 ⟨rfl, hb10⟩
          go_wp2_with (fail)
          go_ret
          refine ⟨rfl, ?_⟩
          have k1 : Kw (fun b => W.heap.size ≤ b) W wr := ((((Kw.ofBelow HB1.out).trans (Kw.ofBelow HB2.out)).trans (HBL.out.mono (fun b _ h => by omega))).trans (Kw.ofBelow HB4.out)).trans (HBL5.out.mono (fun b _ h => by have := h.1; omega))
          exact (k1.trans (((Kw.ofBelow HB8.out).trans (Kw.ofBelow HB9.out)).trans (Kw.ofBelow hb10))).below (Nat.le_refl _) (fun b h => h)
set_option maxHeartbeats 1000000 in
theorem any_walk (A : Option Addr) (c : Nat) (l : List Tm) (A' : Option Addr) (c' : Nat) (l' : List Tm) (W : World) (o : RdT W W.heap.size A l ∧ l.length ≤ c ∧ l.length ≤ maxLen) (o' : RdT W W.heap.size A' l' ∧ l'.length ≤ c' ∧ l'.length ≤ maxLen) :
    Calls Try.prog 10 #[.slice A l.length c, .slice A' l'.length c'] W fun e w' => e = .returned (.bool true) ∧ Below W.heap.size W w' := by
  by_cases hn : l.length ≤ 200
  · by_cases hn' : l'.length ≤ 200
    · exact any_small A l.length c l A' l'.length c' l' W rfl o.1 hn rfl o'.1 hn'
    · obtain ⟨n, hl⟩ : ∃ n, l.length = n := ⟨_, rfl⟩
      obtain ⟨n', hl'⟩ : ∃ n', l'.length = n' := ⟨_, rfl⟩
      rw [hl] at hn ⊢
      rw [hl'] at hn' ⊢
      have hni : ¬ (200 : Int) < (n : Int) := by omega
      have hni' : (200 : Int) < (n' : Int) := by omega
      clear o o' hl hl'
      go_enter Try.func10, Try.ntmps10
      go_wp2_with (fail)
      refine (awake_any _).mono ?_
      rintro e w1 ⟨rfl, hb1⟩
      go_wp2_with (fail)
      go_ret
      exact ⟨rfl, hb1⟩
  · obtain ⟨n, hl⟩ : ∃ n, l.length = n := ⟨_, rfl⟩
    obtain ⟨n', hl'⟩ : ∃ n', l'.length = n' := ⟨_, rfl⟩
    rw [hl] at hn ⊢
    rw [hl']
    have hni : (200 : Int) < (n : Int) := by omega
    clear o o' hl hl'
    go_enter Try.func10, Try.ntmps10
    go_wp2_with (fail)
    refine (awake_any _).mono ?_
    rintro e w1 ⟨rfl, hb1⟩
    go_wp2_with (fail)
    go_ret
    exact ⟨rfl, hb1⟩
end Go.Proofs.Ytlmnnbmihimedaa
