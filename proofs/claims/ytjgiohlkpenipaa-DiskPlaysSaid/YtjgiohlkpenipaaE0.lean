/- Contracts of Names, Same, same. Conditions: as each theorem states them. -/
import Derived.Test.YtjgiohlkpenipaaD2
namespace Go.Proofs.Ytjgiohlkpenipaa
open Go.RowKit Go.Maps
set_option linter.unusedVariables false
set_option linter.unusedSimpArgs false

theorem NamesAt.below {w w' : World} {lo : Nat} {B : Option Addr} {l : Dir} (h : NamesAt w lo B l) (k : Below w.heap.size w w') : NamesAt w' lo B l := fun hl => by
  obtain ⟨g, e, h1, h2, h3⟩ := h hl
  exact ⟨g, e, h1, Nat.lt_of_lt_of_le h2 k.size, fun j hj => (k.cell (p := ⟨g, j, none⟩) h2).trans (h3 j hj)⟩
/-- The names that a disk tells. -/
def DS.namesL (s : DS) : Dir := if s.down then [] else s.dir
set_option maxRecDepth 100000 in
set_option maxHeartbeats 1000000 in
theorem names_any (L : Lay) (s : DS) (w : World) (h : DAt w L s) (iv : Inv s) : Calls Try.prog 48 #[dP L] w fun e w' => ∃ B c, e = .returned (.slice B s.namesL.length c) ∧ s.namesL.length ≤ c ∧ NamesAt w' w.heap.size B s.namesL ∧ Below w.heap.size w w' := by
  have HR := Lib.hid (ready_any L s w h)
  have a4 := h.c.2.2.2.2.1
  have hl := h.lt
  cases hdn : s.down with
  | true =>
    have hE : s.namesL = [] := by unfold DS.namesL; rw [if_pos hdn]
    rw [hE]
    rw [hdn, if_pos rfl] at HR
    clear hE hdn h
    unfold dP at *
    go_enter Try.func48, Try.ntmps48
    go_wp2_with (fail)
    refine HR.out.mono ?_
    rintro r w' ⟨rfl, rfl⟩
    go_wp2_with (fail)
    go_ret
    exact ⟨none, 0, rfl, Nat.le_refl _, fun h => absurd h (by simp), Below.refl _ _⟩
  | false =>
    have hE : s.namesL = s.dir := by unfold DS.namesL; rw [if_neg (by simp [hdn])]
    rw [hE]
    rw [hdn, if_neg (by decide)] at HR
    obtain ⟨D, hD⟩ := h.dirm
    have HSO := Lib.hid (sorted_names hD iv.sd (by have := iv.ok.dl; have := iv.ok.st; omega))
    have HKY := Lib.hid (fun W => Ytjgiohlkpenipaa.keys_any (some L.md) W)
    clear hE hdn h hD
    unfold dP at *
    go_enter Try.func48, Try.ntmps48
    go_wp2_with (fail)
    refine HR.out.mono ?_
    rintro r w' ⟨rfl, rfl⟩
    go_wp2_with (first | (go_at_call 46; refine (HKY.out _).mono ?_; rintro r w' ⟨rfl, rfl⟩) | (go_at_call 45; refine HSO.out.mono ?_; rintro r w4 ⟨B4, c4, rfl, hc4, hna4, hb4⟩))
    go_ret
    exact ⟨B4, c4, rfl, hc4, hna4, hb4⟩
set_option maxRecDepth 100000 in
set_option maxHeartbeats 4000000 in
theorem nsame_any (B1 B2 : Option Addr) (c1 c2 lo1 lo2 : Nat) (l l' : Dir) (w : World) (h1 : NamesAt w lo1 B1 l) (h2 : NamesAt w lo2 B2 l') (he : l.map Prod.fst = l'.map Prod.fst) (hl : l.length ≤ 1000000) :
    Calls Try.prog 49 #[.slice B1 l.length c1, .slice B2 l'.length c2] w fun e w' => e = .returned (.bool true) ∧ Below w.heap.size w w' := by
  have hlen : l'.length = l.length := by
    have := congrArg List.length he
    simpa using this.symm
  rw [hlen]
  have HL2 := Lib.hid hlen
  have H1 := Lib.hid h1
  have H2 := Lib.hid h2
  have HE := Lib.hid he
  obtain ⟨n, hn⟩ : ∃ n, l.length = n := ⟨_, rfl⟩
  have HN := Lib.hid hn
  rw [hn] at hl ⊢
  clear h1 h2 he hlen hn
  go_enter Try.func49, Try.ntmps49
  go_wp2_with (fail)
  go_loopw [5] (fun vi wr => ∃ i : Nat, i ≤ n ∧ vi = .int .i64 i ∧ Below w.heap.size w wr) (fun i _ => n - (intOf i).toNat)
  case atStart => exact ⟨0, Nat.zero_le _, rfl, Below.refl _ _⟩
  case round =>
    obtain ⟨i, hin, rfl, hbl⟩ := hrel
    have HBL := Lib.hid hbl
    have hws := hbl.size
    clear hbl
    by_cases hi : i < n
    · have hi0 : (0 : Int) ≤ (i : Int) := by omega
      have hi1 : (i : Int) < (n : Int) := by omega
      obtain ⟨g1, rfl, _, hg1, hc1⟩ := H1.out (by rw [HN.out]; omega)
      obtain ⟨g2, rfl, _, hg2, hc2⟩ := H2.out (by rw [HL2.out, HN.out]; omega)
      have y0 := hc1 i (by rw [HN.out]; exact hi)
      have z0 := hc2 i (by rw [HL2.out, HN.out]; exact hi)
      have hil : i < l.length := by rw [HN.out]; exact hi
      have hil2 : i < l'.length := by rw [HL2.out, HN.out]; exact hi
      have hee : (l'.getD i zeroN).1 = (l.getD i zeroN).1 := by
        have a1 : (l.map Prod.fst)[i]? = (l'.map Prod.fst)[i]? := by rw [HE.out]
        rw [List.getElem?_map, List.getElem?_map, List.getElem?_eq_getElem hil, List.getElem?_eq_getElem hil2] at a1
        simp only [Option.map_some, Option.some.injEq] at a1
        rw [List.getD_eq_getElem?_getD, List.getD_eq_getElem?_getD, List.getElem?_eq_getElem hil, List.getElem?_eq_getElem hil2]
        exact a1.symm
      rw [hee] at z0
      obtain ⟨p, hp⟩ : ∃ p, (l.getD i zeroN).1 = p := ⟨_, rfl⟩
      rw [hp] at y0 z0
      have y0 := ext_cell ((HBL.out.cell (p := ⟨g1, i, none⟩) hg1).trans y0)
      have z0 := ext_cell ((HBL.out.cell (p := ⟨g2, i, none⟩) hg2).trans z0)
      clear hc1 hc2 hp hee hil hil2
      go_wp2_with (fail)
      refine wp_region_ext (by kernel_rfl) (by kernel_rfl) ?_
      repeat (go_big_quiet_step (fail))
      refine wpQuiet_nil ?_
      rintro w8 ⟨⟨_, hb8⟩, rfl⟩
      have HB8 := Lib.hid (HBL.out.trans (hb8.mono HBL.out.size))
      clear hb8
      go_wp2_with (fail)
      exact ⟨⟨i + 1, by omega, by push_cast; rfl, HB8.out⟩, by simp [intOf]; omega⟩
    · have hi1 : ¬ (i : Int) < (n : Int) := by omega
      go_wp2_with (fail)
      go_ret
      exact ⟨rfl, HBL.out⟩
/-- Two disks that tell the same. -/
def Alike (s t : DS) : Prop := s.dir = t.dir ∧ s.down = t.down ∧ s.files = t.files
theorem Alike.read {s t : DS} (h : Alike s t) (n : ByteArray) : t.read n = s.read n := by
  obtain ⟨h1, h2, h3⟩ := h
  unfold DS.read DS.file
  rw [h1, h2, h3]
theorem Alike.used {s t : DS} (h : Alike s t) : t.used = s.used := by
  obtain ⟨h1, h2, h3⟩ := h
  unfold DS.used DS.file
  rw [h1, h2, h3]
theorem Alike.names {s t : DS} (h : Alike s t) : t.namesL = s.namesL := by
  obtain ⟨h1, h2, h3⟩ := h
  unfold DS.namesL
  rw [h1, h2]
set_option maxRecDepth 100000 in
set_option maxHeartbeats 8000000 in
theorem same_any (L M : Lay) (s t : DS) (w : World) (h1 : DAt w L s) (h2 : DAt w M t) (iv : Inv s) (it : Inv t) (ha : Alike s t) :
    Calls Try.prog 23 #[dP L, dP M] w fun e w' => e = .returned (.bool true) ∧ Below w.heap.size w w' := by
  have H1 := Lib.hid h1
  have H2 := Lib.hid h2
  have HNA := Lib.hid (names_any L s w h1 iv)
  have HNB := Lib.hid (fun w' (k : Below w.heap.size w w') => names_any M t w' (h2.below k) it)
  have HUA := Lib.hid (fun w' (k : Below w.heap.size w w') => used_any L s w' (h1.below k) (by have := iv.ok.sum; omega))
  have HUB := Lib.hid (fun w' (k : Below w.heap.size w w') => used_any M t w' (h2.below k) (by have := it.ok.sum; omega))
  have HDA := Lib.hid (fun w' (k : Below w.heap.size w w') => down_any L s w' (h1.below k))
  have HDB := Lib.hid (fun w' (k : Below w.heap.size w w') => down_any M t w' (h2.below k))
  rw [ha.used] at HUB
  rw [show t.down = s.down from ha.2.1.symm] at HDB
  rw [ha.names] at HNB
  have hub := iv.ok.usedB
  have hnl : s.namesL.length ≤ 1000000 := by
    unfold DS.namesL
    split
    · simp
    · have := iv.ok.dl
      have := iv.ok.st
      omega
  have HSM := Lib.hid (fun w' (B1 B2 : Option Addr) (c1 c2 lo1 lo2 : Nat) (h1 : NamesAt w' lo1 B1 s.namesL) (h2 : NamesAt w' lo2 B2 s.namesL) => nsame_any B1 B2 c1 c2 lo1 lo2 s.namesL s.namesL w' h1 h2 rfl hnl)
  have HRA := Lib.hid (fun w' (k : Below w.heap.size w w') n (hn : okN n) => read_any L s n w' (h1.below k) hn)
  have HRB := Lib.hid (fun w' (k : Below w.heap.size w w') n (hn : okN n) => read_any M t n w' (h2.below k) hn)
  have hre : ∀ n, t.read n = s.read n := fun n => ha.read n
  simp only [hre] at HRB
  have HOK : Hid (∀ p ∈ s.namesL, okN p.1) := Lib.hid (fun p hp => by
    unfold DS.namesL at hp
    split at hp
    · cases hp
    · exact okN_named (iv.ok.nd p hp))
  obtain ⟨l, hl⟩ : ∃ l, s.namesL = l := ⟨_, rfl⟩
  rw [hl] at HNA HNB HSM HOK hnl
  obtain ⟨n, hn⟩ : ∃ n, l.length = n := ⟨_, rfl⟩
  have HN := Lib.hid hn
  rw [hn] at HNA HNB HSM hnl
  generalize s.used = U at *
  obtain ⟨rf, hrf⟩ : ∃ rf : ByteArray → ByteArray × Int, s.read = rf := ⟨_, rfl⟩
  rw [hrf] at HRA HRB
  generalize s.down = dn at *
  clear h1 h2 iv it ha hre hl hn hrf
  unfold dP at *
  go_enter Try.func23, Try.ntmps23
  go_wp2_with (fail)
  refine HNA.out.mono ?_
  rintro r w1 ⟨B1, c1, rfl, hc1, hn1, hb1⟩
  have N1 := Lib.hid hn1
  have K1 := Lib.hid hb1
  clear hn1 hb1
  go_wp2_with (fail)
  refine (HNB.out w1 K1.out).mono ?_
  rintro r w2 ⟨B2, c2, rfl, hc2, hn2, hb2⟩
  have N2 := Lib.hid hn2
  have N12 := Lib.hid (N1.out.below hb2)
  have K2 := Lib.hid (K1.out.trans (hb2.mono K1.out.size))
  clear hn2 hb2
  go_wp2_with (fail)
  refine (HSM.out w2 B1 B2 c1 c2 _ _ N12.out N2.out).mono ?_
  rintro r w3 ⟨rfl, hb3⟩
  have N13 := Lib.hid (N12.out.below hb3)
  have K3 := Lib.hid (K2.out.trans (hb3.mono K2.out.size))
  clear hb3
  go_wp2_with (fail)
  refine (HUA.out w3 K3.out).mono ?_
  rintro r w4 ⟨rfl, hb4⟩
  have N14 := Lib.hid (N13.out.below hb4)
  have K4 := Lib.hid (K3.out.trans (hb4.mono K3.out.size))
  clear hb4
  go_wp2_with (fail)
  refine (HUB.out w4 K4.out).mono ?_
  rintro r w5 ⟨rfl, hb5⟩
  have N15 := Lib.hid (N14.out.below hb5)
  have K5 := Lib.hid (K4.out.trans (hb5.mono K4.out.size))
  clear hb5
  go_wp2_with (fail)
  refine (HDA.out w5 K5.out).mono ?_
  rintro r w' ⟨rfl, rfl⟩
  go_wp2_with (fail)
  refine (HDB.out w5 K5.out).mono ?_
  rintro r w' ⟨rfl, rfl⟩
  go_wp2_with (fail)
  go_loopw [6] (fun vi wr => ∃ i : Nat, i ≤ n ∧ vi = .int .i64 i ∧ wr = w5) (fun i _ => n - (intOf i).toNat)
  case atStart => exact ⟨0, Nat.zero_le _, rfl, rfl⟩
  case round =>
    obtain ⟨i, hin, rfl, rfl⟩ := hrel
    by_cases hi : i < n
    · have hi0 : (0 : Int) ≤ (i : Int) := by omega
      have hi1 : (i : Int) < (n : Int) := by omega
      obtain ⟨g1, rfl, _, hg1, hcg⟩ := N15.out (by rw [HN.out]; omega)
      have y0 := hcg i (by rw [HN.out]; exact hi)
      obtain ⟨p, hp⟩ : ∃ p, l.getD i zeroN = p := ⟨_, rfl⟩
      have hpo : okN p.1 := by
        refine HOK.out p ?_
        rw [← hp, List.getD_eq_getElem?_getD, List.getElem?_eq_getElem (by rw [HN.out]; exact hi)]
        exact List.getElem_mem _
      rw [hp] at y0
      have RA := Lib.hid (HRA.out _ K5.out p.1 hpo)
      have RB := Lib.hid (HRB.out _ K5.out p.1 hpo)
      obtain ⟨⟨rx, re⟩, hrx⟩ : ∃ x, rf p.1 = x := ⟨_, rfl⟩
      rw [hrx] at RA RB
      dsimp only at RA RB
      obtain ⟨nm, q⟩ := p
      dsimp only at y0 RA RB
      clear hcg hp hpo hrx
      go_wp2_with (fail)
      refine RA.out.mono ?_
      rintro r w' ⟨rfl, rfl⟩
      go_wp2_with (fail)
      refine RB.out.mono ?_
      rintro r w' ⟨rfl, rfl⟩
      go_wp2_with (fail)
      exact ⟨⟨i + 1, by omega, by push_cast; rfl, by first | rfl | trivial⟩, by simp [intOf]; omega⟩
    · have hi1 : ¬ (i : Int) < (n : Int) := by omega
      go_wp2_with (fail)
      go_ret
      exact ⟨rfl, K5.out⟩
end Go.Proofs.Ytjgiohlkpenipaa
