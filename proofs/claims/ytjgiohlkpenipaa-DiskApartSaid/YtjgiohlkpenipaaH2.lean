/- The walk of DiskApart. Conditions: as each theorem states them. -/
import Derived.Test.YtjgiohlkpenipaaH0
namespace Go.Proofs.Ytjgiohlkpenipaa
open Go.RowKit Go.Maps
set_option linter.unusedVariables false
set_option linter.unusedSimpArgs false

def noM : ByteArray := ⟨#[]⟩
set_option maxRecDepth 100000 in
set_option maxHeartbeats 16000000 in
theorem apart_small (A1 : Option Addr) (c1 : Nat) (l1 : List Oq) (A2 : Option Addr) (c2 : Nat) (l2 : List Oq) (a : List Int) (A : Option Addr) (ca : Nat) (w : World)
    (h1 : RdO w A1 l1) (h2 : RdO w A2 l2) (hA : RdC w A a) (hca : a.length ≤ ca) (hoffa : 0 < a.length → ChA w.heap.size A) :
    Calls Try.prog 7 #[.slice A1 l1.length c1, .slice A2 l2.length c2, .slice A a.length ca] w fun e w' => e = .returned (.bool true) ∧ Below w.heap.size w w' := by
  have HL1 := Lib.hid (long_any A1 c1 l1 w h1)
  have HL2 := Lib.hid (long_any A2 c2 l2 w h2)
  have HNw : Hid (∀ w, Calls Try.prog 10 #[.int .i64 268435456] w fun e w' => ∃ d, e = .returned (.tuple #[.pointer (some ⟨d, 0, none⟩), .int .i64 0]) ∧ Dk w' d (newS rm) w.heap.size ∧ Below w.heap.size w w') := Lib.hid (fun w => new_dk rm w (by unfold rm; omega))
  have HN := Lib.hid (HNw.out w)
  have R1 := Lib.hid h1
  have R2 := Lib.hid h2
  have RA := Lib.hid hA
  have OA := Lib.hid hoffa
  have CA := Lib.hid hca
  obtain ⟨n1, hn1⟩ : ∃ n, l1.length = n := ⟨_, rfl⟩
  obtain ⟨n2, hn2⟩ : ∃ n, l2.length = n := ⟨_, rfl⟩
  obtain ⟨ma, hma⟩ : ∃ m, a.length = m := ⟨_, rfl⟩
  have HN1 := Lib.hid hn1
  have HN2 := Lib.hid hn2
  have HMA := Lib.hid hma
  rw [hn1] at HL1
  rw [hn2] at HL2
  rw [hn1, hn2, hma]
  clear h1 h2 hA hca hoffa hn1 hn2 hma
  go_enter Try.func7, Try.ntmps7
  go_wp2_with (fail)
  refine HL1.out.mono ?_
  rintro e w' ⟨⟨b1, rfl, hs1⟩, rfl⟩
  cases b1 with
  | true =>
    clear hs1
    go_wp2_with (go_at_call 9; refine (awake_any _).mono ?_; rintro e w3 ⟨rfl, hb3⟩)
    go_ret
    exact ⟨rfl, hb3⟩
  | false =>
    have S1 := Lib.hid (hs1 rfl)
    clear hs1
    go_wp2_with (fail)
    refine HL2.out.mono ?_
    rintro e w' ⟨⟨b2, rfl, hs2⟩, rfl⟩
    by_cases hx1 : (300 : Int) < (ma : Int)
    · clear hs2
      cases b2 <;>
      · go_wp2_with (go_at_call 9; refine (awake_any _).mono ?_; rintro e w3 ⟨rfl, hb3⟩)
        go_ret
        exact ⟨rfl, hb3⟩
    cases b2 with
    | true =>
      clear hs2
      go_wp2_with (go_at_call 9; refine (awake_any _).mono ?_; rintro e w3 ⟨rfl, hb3⟩)
      go_ret
      exact ⟨rfl, hb3⟩
    | false =>
      have S2 := Lib.hid (hs2 rfl)
      clear hs2
      go_wp2_with (fail)
      refine HN.out.mono ?_
      rintro r w1 ⟨d, rfl, hd1, hb1⟩
      have HD1 := Lib.hid ((Ds.nil w w.heap.size).add (Nat.le_refl _) hb1 hd1)
      have HB1 := Lib.hid hb1
      clear hd1 hb1
      go_wp2_with (fail)
      refine (HNw.out _).mono ?_
      rintro r w2 ⟨f, rfl, hd2, hb2⟩
      have HD2 := Lib.hid (HD1.out.add HB1.out.size hb2 hd2)
      have HB2 := Lib.hid (HB1.out.trans (hb2.mono HB1.out.size))
      clear hd2 hb2
      go_wp2_with (fail)
      go_loopw [11] (fun vi wr => ∃ i : Nat, i ≤ n1 ∧ vi = .int .i64 i ∧ ∃ s, Ds wr [(d, s), (f, s)] w.heap.size ∧ Inv s ∧ s.steps ≤ i ∧ Below w.heap.size w wr) (fun i _ => n1 - (intOf i).toNat)
      case atStart => exact ⟨0, Nat.zero_le _, rfl, newS rm, HD2.out, ivR, Nat.le_refl _, HB2.out⟩
      case round =>
        obtain ⟨i, hin, rfl, s, hdk, iv, hst, hbl⟩ := hrel
        have HDK := Lib.hid hdk
        have IV := Lib.hid iv
        have HBL := Lib.hid hbl
        clear hdk iv hbl
        have hn120 : n1 ≤ 120 := by rw [← HN1.out]; exact S1.out.1
        by_cases hi : i < n1
        · have hi0 : (0 : Int) ≤ (i : Int) := by omega
          have hi1 : (i : Int) < (n1 : Int) := by omega
          obtain ⟨b, off, rfl, hb, hcc⟩ := (R1.out.below HBL.out).1 (by rw [HN1.out]; omega)
          obtain ⟨u0, u1, u2, u3, u4⟩ := hcc i (by rw [HN1.out]; exact hi)
          obtain ⟨o, ho⟩ : ∃ o, l1.getD i zeroO = o := ⟨_, rfl⟩
          have hom : o ∈ l1 := by rw [← ho]; exact getO (by rw [HN1.out]; exact hi)
          have hoq := R1.out.2 o hom
          have hsm := S1.out.2 o hom
          rw [ho] at u0 u1 u2 u3 u4
          have HDO := Lib.hid (does_ds (i := 0) HDK.out rfl IV.out (by omega) HBL.out.size o noM hoq.1 hsm.1 hoq.2.2.1.2)
          have HDP := Lib.hid (fun w' (h : Ds w' [(d, s.does o noM), (f, s)] w.heap.size) hB => does_ds (i := 1) h rfl IV.out (by omega) hB o noM hoq.1 hsm.1 hoq.2.2.1.2)
          have HSM := Lib.hid hsm
          have HOQ := Lib.hid hoq
          unfold opV noM ptrV at HDO HDP
          have HCC := Lib.hid hcc
          clear hcc ho hom hoq hsm
          have hbw : b < w.heap.size := by
            obtain ⟨b', off', e1, hb', _⟩ := R1.out.1 (by rw [HN1.out]; omega)
            cases e1
            exact hb'
          go_wp2_with (fail)
          refine HDO.out.mono ?_
          rintro r w4 ⟨rfl, hd4, hb4⟩
          have y0 := (hb4.cell (p := ⟨b, _, none⟩) hbw).trans u0
          have y1 := (hb4.cell (p := ⟨b, _, none⟩) hbw).trans u1
          have y2 := (hb4.cell (p := ⟨b, _, none⟩) hbw).trans u2
          have y3 := (hb4.cell (p := ⟨b, _, none⟩) hbw).trans u3
          have y4 := (hb4.cell (p := ⟨b, _, none⟩) hbw).trans u4
          have HD4 := Lib.hid hd4
          have HB4 := Lib.hid (HBL.out.trans hb4)
          clear hd4 hb4
          have hbw4 : b < w4.heap.size := Nat.lt_of_lt_of_le hbw HB4.out.size
          go_wp2_with (fail)
          refine (HDP.out w4 HD4.out HB4.out.size).mono ?_
          rintro r w5 ⟨rfl, hd5, hb5⟩
          have HD5 := Lib.hid hd5
          have HB5 := Lib.hid (HB4.out.trans hb5)
          clear hd5 hb5
          go_wp2_with (fail)
          exact ⟨⟨i + 1, by omega, by push_cast; rfl, s.does o noM, HD5.out, IV.out.does (by omega) o noM HSM.out.1 HOQ.out.2.2.1.2, by have := does_steps s o noM; omega, HB5.out⟩, by simp [intOf]; omega⟩
        · have hi1 : ¬ (i : Int) < (n1 : Int) := by omega
          have HCP := Lib.hid (copy_ds (i := 0) HDK.out rfl IV.out HBL.out.size)
          unfold ptrV at HCP
          go_wp2_with (fail)
          refine HCP.out.mono ?_
          rintro r w6 ⟨c, rfl, hd6, hb6⟩
          have HD6 := Lib.hid hd6
          have HB6 := Lib.hid (HBL.out.trans (hb6.mono HBL.out.size))
          clear hd6 hb6
          go_wp2_with (fail)
          go_loopw [13] (fun vi wr => ∃ j : Nat, j ≤ n2 ∧ vi = .int .i64 j ∧ ∃ t, Ds wr [(d, s), (f, s), (c, t)] w.heap.size ∧ Inv t ∧ t.steps ≤ 120 + j ∧ Below w.heap.size w wr) (fun i _ => n2 - (intOf i).toNat)
          case atStart => exact ⟨0, Nat.zero_le _, rfl, s, HD6.out, IV.out, by omega, HB6.out⟩
          case round =>
            obtain ⟨j, hjn, rfl, t, hdk, it, hst2, hbl⟩ := hrel
            have HDK2 := Lib.hid hdk
            have IT := Lib.hid it
            have HBL2 := Lib.hid hbl
            clear hdk it hbl
            have hn121 : n2 ≤ 120 := by rw [← HN2.out]; exact S2.out.1
            by_cases hj : j < n2
            · have hj0 : (0 : Int) ≤ (j : Int) := by omega
              have hj1 : (j : Int) < (n2 : Int) := by omega
              obtain ⟨b, off, rfl, hb, hcc⟩ := (R2.out.below HBL2.out).1 (by rw [HN2.out]; omega)
              obtain ⟨u0, u1, u2, u3, u4⟩ := hcc j (by rw [HN2.out]; exact hj)
              obtain ⟨o, ho⟩ : ∃ o, l2.getD j zeroO = o := ⟨_, rfl⟩
              have hom : o ∈ l2 := by rw [← ho]; exact getO (by rw [HN2.out]; exact hj)
              have hoq := R2.out.2 o hom
              have hsm := S2.out.2 o hom
              rw [ho] at u0 u1 u2 u3 u4
              have HDO := Lib.hid (does_ds (i := 2) HDK2.out rfl IT.out (by omega) HBL2.out.size o noM hoq.1 hsm.1 hoq.2.2.1.2)
              have HSM := Lib.hid hsm
              have HOQ := Lib.hid hoq
              unfold opV noM ptrV at HDO
              clear hcc ho hom hoq hsm
              go_wp2_with (fail)
              refine HDO.out.mono ?_
              rintro r w7 ⟨rfl, hd7, hb7⟩
              have HD7 := Lib.hid hd7
              have HB7 := Lib.hid (HBL2.out.trans hb7)
              clear hd7 hb7
              go_wp2_with (fail)
              exact ⟨⟨j + 1, by omega, by push_cast; rfl, t.does o noM, HD7.out, IT.out.does (by omega) o noM HSM.out.1 HOQ.out.2.2.1.2, by have := does_steps t o noM; omega, HB7.out⟩, by simp [intOf]; omega⟩
            · have hj1 : ¬ (j : Int) < (n2 : Int) := by omega
              have HIC := Lib.hid (IV.out.crash a)
              have HS1 := Lib.hid (same_ds (i := 0) (j := 1) HDK2.out rfl rfl IV.out IV.out ⟨rfl, rfl, rfl⟩)
              have HT1 := Lib.hid (fun w' (h : Ds w' [(d, s), (f, s), (c, t)] w.heap.size) => steps_dk (h.one (i := 0) rfl))
              have HT2 := Lib.hid (fun w' (h : Ds w' [(d, s), (f, s), (c, t)] w.heap.size) => steps_dk (h.one (i := 1) rfl))
              have HCB := Lib.hid (fun w' (h : Ds w' [(d, s), (f, s), (c, t)] w.heap.size) hB => copy_ds (i := 2) h rfl IT.out hB)
              have HC1 := Lib.hid (fun w' b (h : Ds w' [(d, s), (f, s), (c, t), (b, t)] w.heap.size) (hbb : Below w.heap.size w w') => crash_ds (i := 0) h rfl IV.out hbb.size (RA.out.mono hbb OA.out) CA.out OA.out)
              have HC2 := Lib.hid (fun w' b (h : Ds w' [(d, s.crash a), (f, s), (c, t), (b, t)] w.heap.size) (hbb : Below w.heap.size w w') => crash_ds (i := 1) h rfl IV.out hbb.size (RA.out.mono hbb OA.out) CA.out OA.out)
              rw [HMA.out] at HC1 HC2
              have HS2 := Lib.hid (fun w' b (h : Ds w' [(d, s.crash a), (f, s.crash a), (c, t), (b, t)] w.heap.size) => same_ds (i := 0) (j := 1) h rfl rfl HIC.out HIC.out ⟨rfl, rfl, rfl⟩)
              have HS3 := Lib.hid (fun w' b (h : Ds w' [(d, s.crash a), (f, s.crash a), (c, t), (b, t)] w.heap.size) => same_ds (i := 3) (j := 2) h rfl rfl IT.out IT.out ⟨rfl, rfl, rfl⟩)
              have HT3 := Lib.hid (fun w' b (h : Ds w' [(d, s.crash a), (f, s.crash a), (c, t), (b, t)] w.heap.size) => steps_dk (h.one (i := 3) rfl))
              have HT4 := Lib.hid (fun w' b (h : Ds w' [(d, s.crash a), (f, s.crash a), (c, t), (b, t)] w.heap.size) => steps_dk (h.one (i := 2) rfl))
              unfold ptrV at HS1 HT1 HT2 HCB HC1 HC2 HS2 HS3 HT3 HT4
              go_wp2_with (fail)
              refine HS1.out.mono ?_
              rintro r w8 ⟨rfl, hb8⟩
              have D8 := Lib.hid (HDK2.out.below hb8)
              have B8 := Lib.hid (HBL2.out.trans (hb8.mono HBL2.out.size))
              clear hb8
              go_wp2_with (fail)
              refine (HT1.out w8 D8.out).mono ?_
              rintro r w' ⟨rfl, rfl⟩
              go_wp2_with (fail)
              refine (HT2.out w8 D8.out).mono ?_
              rintro r w' ⟨rfl, rfl⟩
              go_wp2_with (fail)
              refine (HCB.out w8 D8.out B8.out.size).mono ?_
              rintro r w9 ⟨b, rfl, hd9, hb9⟩
              have D9 := Lib.hid hd9
              have B9 := Lib.hid (B8.out.trans (hb9.mono B8.out.size))
              clear hd9 hb9
              go_wp2_with (fail)
              refine (HC1.out w9 b D9.out B9.out).mono ?_
              rintro r wa ⟨rfl, hda, hba⟩
              have Da := Lib.hid hda
              have Ba := Lib.hid (B9.out.trans hba)
              clear hda hba
              go_wp2_with (fail)
              refine (HC2.out wa b Da.out Ba.out).mono ?_
              rintro r wb ⟨rfl, hdb, hbb⟩
              have Db := Lib.hid hdb
              have Bb := Lib.hid (Ba.out.trans hbb)
              clear hdb hbb
              go_wp2_with (fail)
              refine (HS2.out wb b Db.out).mono ?_
              rintro r wc ⟨rfl, hbc⟩
              have Dc := Lib.hid (Db.out.below hbc)
              have Bc := Lib.hid (Bb.out.trans (hbc.mono Bb.out.size))
              clear hbc
              go_wp2_with (fail)
              refine (HS3.out wc b Dc.out).mono ?_
              rintro r wd ⟨rfl, hbd⟩
              have Dd := Lib.hid (Dc.out.below hbd)
              have Bd := Lib.hid (Bc.out.trans (hbd.mono Bc.out.size))
              clear hbd
              go_wp2_with (fail)
              refine (HT3.out wd b Dd.out).mono ?_
              rintro r w' ⟨rfl, rfl⟩
              go_wp2_with (fail)
              refine (HT4.out wd b Dd.out).mono ?_
              rintro r w' ⟨rfl, rfl⟩
              go_wp2_with (fail)
              refine (awake_any wd).mono ?_
              rintro e we ⟨rfl, hbe⟩
              go_wp2_with (fail)
              go_ret
              exact ⟨rfl, Bd.out.trans (hbe.mono Bd.out.size)⟩
theorem apart_walk (A1 : Option Addr) (c1 : Nat) (l1 : List Oq) (A2 : Option Addr) (c2 : Nat) (l2 : List Oq) (A : Option Addr) (ca : Nat) (a : List Int) (w : World)
    (h1 : RdO w A1 l1) (h2 : RdO w A2 l2) (o : RdC w A a ∧ a.length ≤ ca ∧ (0 < a.length → ChA w.heap.size A)) :
    Calls Try.prog 7 #[.slice A1 l1.length c1, .slice A2 l2.length c2, .slice A a.length ca] w fun e w' => e = .returned (.bool true) ∧ Below w.heap.size w w' :=
  apart_small A1 c1 l1 A2 c2 l2 a A ca w h1 h2 o.1 o.2.1 o.2.2
end Go.Proofs.Ytjgiohlkpenipaa
