/- The walk of DiskTwice. Conditions: as each theorem states them. -/
import Derived.Test.YtjgiohlkpenipaaH0
namespace Go.Proofs.Ytjgiohlkpenipaa
open Go.RowKit Go.Maps
set_option linter.unusedVariables false
set_option linter.unusedSimpArgs false

def noN : ByteArray := ⟨#[]⟩
set_option maxRecDepth 100000 in
set_option maxHeartbeats 8000000 in
theorem twice_small (A1 : Option Addr) (c1 : Nat) (l1 : List Oq) (a : List Int) (A : Option Addr) (ca : Nat) (b : List Int) (C : Option Addr) (cb : Nat) (w : World)
    (h1 : RdO w A1 l1) (hA : RdC w A a) (hca : a.length ≤ ca) (hoffa : 0 < a.length → ChA w.heap.size A) (hC : RdC w C b) (hcb : b.length ≤ cb) (hoffb : 0 < b.length → ChA w.heap.size C) :
    Calls Try.prog 6 #[.slice A1 l1.length c1, .slice A a.length ca, .slice C b.length cb] w fun e w' => e = .returned (.bool true) ∧ Below w.heap.size w w' := by
  have HL1 := Lib.hid (long_any A1 c1 l1 w h1)
  have HN : Hid (Calls Try.prog 10 #[.int .i64 268435456] w fun e w' => ∃ d, e = .returned (.tuple #[.pointer (some ⟨d, 0, none⟩), .int .i64 0]) ∧ Dk w' d (newS rm) w.heap.size ∧ Below w.heap.size w w') := Lib.hid (new_dk rm w (by unfold rm; omega))
  have R1 := Lib.hid h1
  have RA := Lib.hid hA
  have OA := Lib.hid hoffa
  have CA := Lib.hid hca
  have RB := Lib.hid hC
  have OB := Lib.hid hoffb
  have CB := Lib.hid hcb
  obtain ⟨n1, hn1⟩ : ∃ n, l1.length = n := ⟨_, rfl⟩
  obtain ⟨ma, hma⟩ : ∃ m, a.length = m := ⟨_, rfl⟩
  obtain ⟨mb, hmb⟩ : ∃ m, b.length = m := ⟨_, rfl⟩
  have HN1 := Lib.hid hn1
  have HMA := Lib.hid hma
  have HMB := Lib.hid hmb
  rw [hn1] at HL1
  rw [hn1, hma, hmb]
  clear h1 hA hca hoffa hC hcb hoffb hn1 hma hmb
  go_enter Try.func6, Try.ntmps6
  go_wp2_with (fail)
  refine HL1.out.mono ?_
  rintro e w' ⟨⟨b1, rfl, hs1⟩, rfl⟩
  by_cases hx1 : (300 : Int) < (ma : Int)
  · clear hs1
    cases b1 <;>
    · go_wp2_with (go_at_call 9; refine (awake_any _).mono ?_; rintro e w3 ⟨rfl, hb3⟩)
      go_ret
      exact ⟨rfl, hb3⟩
  by_cases hx2 : (300 : Int) < (mb : Int)
  · clear hs1
    cases b1 <;>
    · go_wp2_with (go_at_call 9; refine (awake_any _).mono ?_; rintro e w3 ⟨rfl, hb3⟩)
      go_ret
      exact ⟨rfl, hb3⟩
  cases b1 with
  | true =>
    clear hs1
    go_wp2_with (go_at_call 9; refine (awake_any _).mono ?_; rintro e w3 ⟨rfl, hb3⟩)
    go_ret
    exact ⟨rfl, hb3⟩
  | false =>
    have S1 := Lib.hid (hs1 rfl)
    clear hs1
    go_wp2_with (fail)
    refine HN.out.mono ?_
    rintro r w1 ⟨d, rfl, hd1, hb1⟩
    have HD1 := Lib.hid ((Ds.nil w w.heap.size).add (Nat.le_refl _) hb1 hd1)
    have HB1 := Lib.hid hb1
    clear hd1 hb1
    go_wp2_with (fail)
    go_loopw [9] (fun vi wr => ∃ i : Nat, i ≤ n1 ∧ vi = .int .i64 i ∧ ∃ s, Ds wr [(d, s)] w.heap.size ∧ Inv s ∧ s.steps ≤ i ∧ Below w.heap.size w wr) (fun i _ => n1 - (intOf i).toNat)
    case atStart => exact ⟨0, Nat.zero_le _, rfl, newS rm, HD1.out, ivR, Nat.le_refl _, HB1.out⟩
    case round =>
      obtain ⟨i, hin, rfl, s, hdk, iv, hst, hbl⟩ := hrel
      have HDK := Lib.hid hdk
      have IV := Lib.hid iv
      have HBL := Lib.hid hbl
      clear hdk iv hbl
      have hn120 : n1 ≤ 120 := by rw [← HN1.out]; exact S1.out.1
      by_cases hi : i < n1
      · have hi0 : (0 : Int) ≤ (i : Int) := by omega
        have hi1 : (i : Int) < (n1 : Int) := by omega
        obtain ⟨b, off, rfl, hb, hcc⟩ := (R1.out.below HBL.out).1 (by rw [HN1.out]; omega)
        obtain ⟨u0, u1, u2, u3, u4⟩ := hcc i (by rw [HN1.out]; exact hi)
        obtain ⟨o, ho⟩ : ∃ o, l1.getD i zeroO = o := ⟨_, rfl⟩
        have hom : o ∈ l1 := by rw [← ho]; exact getO (by rw [HN1.out]; exact hi)
        have hoq := R1.out.2 o hom
        have hsm := S1.out.2 o hom
        rw [ho] at u0 u1 u2 u3 u4
        have HDO := Lib.hid (does_ds (i := 0) HDK.out rfl IV.out (by omega) HBL.out.size o noN hoq.1 hsm.1 hoq.2.2.1.2)
        have HSM := Lib.hid hsm
        have HOQ := Lib.hid hoq
        unfold opV noN ptrV at HDO
        clear hcc ho hom hoq hsm
        go_wp2_with (fail)
        refine HDO.out.mono ?_
        rintro r w3 ⟨rfl, hd3, hb3⟩
        have HD3 := Lib.hid hd3
        have HB3 := Lib.hid (HBL.out.trans hb3)
        clear hd3 hb3
        go_wp2_with (fail)
        exact ⟨⟨i + 1, by omega, by push_cast; rfl, s.does o noN, HD3.out, IV.out.does (by omega) o noN HSM.out.1 HOQ.out.2.2.1.2, by have := does_steps s o noN; omega, HB3.out⟩, by simp [intOf]; omega⟩
      · have hi1 : ¬ (i : Int) < (n1 : Int) := by omega
        have HIV1 := Lib.hid (IV.out.crash a)
        have HTW := Lib.hid (crash_twice IV.out ((HDK.out.one (i := 0) rfl).lt) a b)
        have HUP := Lib.hid (crash_up s a)
        have HC1 := Lib.hid (crash_ds (i := 0) HDK.out rfl IV.out HBL.out.size (RA.out.mono HBL.out OA.out) CA.out OA.out)
        rw [HMA.out] at HC1
        have HCP := Lib.hid (fun w' (h : Ds w' [(d, s.crash a)] w.heap.size) hB => copy_ds (i := 0) h rfl HIV1.out hB)
        have HC2 := Lib.hid (fun w' e (h : Ds w' [(d, s.crash a), (e, s.crash a)] w.heap.size) (hbb : Below w.heap.size w w') => crash_ds (i := 0) h rfl HIV1.out hbb.size (RB.out.mono hbb OB.out) CB.out OB.out)
        rw [HMB.out] at HC2
        simp only [HTW.out] at HC2
        have HSA := Lib.hid (fun w' e (h : Ds w' [(d, s.crash a), (e, s.crash a)] w.heap.size) => same_ds (i := 0) (j := 1) h rfl rfl HIV1.out HIV1.out ⟨rfl, rfl, rfl⟩)
        have HDN := Lib.hid (fun w' e (h : Ds w' [(d, s.crash a), (e, s.crash a)] w.heap.size) => down_dk (h.one (i := 0) rfl))
        rw [HUP.out.1] at HDN
        unfold ptrV at HC1 HCP HC2 HSA HDN
        go_wp2_with (fail)
        refine HC1.out.mono ?_
        rintro r w2 ⟨rfl, hd2, hb2⟩
        have D2 := Lib.hid hd2
        have B2 := Lib.hid (HBL.out.trans hb2)
        clear hd2 hb2
        go_wp2_with (fail)
        refine (HCP.out w2 D2.out B2.out.size).mono ?_
        rintro r w3 ⟨e, rfl, hd3, hb3⟩
        have D3 := Lib.hid hd3
        have B3 := Lib.hid (B2.out.trans (hb3.mono B2.out.size))
        clear hd3 hb3
        go_wp2_with (fail)
        refine (HC2.out w3 e D3.out B3.out).mono ?_
        rintro r w4 ⟨rfl, hd4, hb4⟩
        have D4 := Lib.hid hd4
        have B4 := Lib.hid (B3.out.trans hb4)
        clear hd4 hb4
        go_wp2_with (fail)
        refine (HSA.out w4 e D4.out).mono ?_
        rintro r w5 ⟨rfl, hb5⟩
        have D5 := Lib.hid (D4.out.below hb5)
        have B5 := Lib.hid (B4.out.trans (hb5.mono B4.out.size))
        clear hb5
        go_wp2_with (fail)
        refine (HDN.out w5 e D5.out).mono ?_
        rintro r w' ⟨rfl, rfl⟩
        go_wp2_with (fail)
        refine (awake_any w5).mono ?_
        rintro e w9 ⟨rfl, hb9⟩
        go_wp2_with (fail)
        go_ret
        exact ⟨rfl, B5.out.trans (hb9.mono B5.out.size)⟩
theorem twice_walk (A1 : Option Addr) (c1 : Nat) (l1 : List Oq) (A : Option Addr) (ca : Nat) (a : List Int) (C : Option Addr) (cb : Nat) (b : List Int) (w : World)
    (h1 : RdO w A1 l1) (o : RdC w A a ∧ a.length ≤ ca ∧ (0 < a.length → ChA w.heap.size A)) (p : RdC w C b ∧ b.length ≤ cb ∧ (0 < b.length → ChA w.heap.size C)) :
    Calls Try.prog 6 #[.slice A1 l1.length c1, .slice A a.length ca, .slice C b.length cb] w fun e w' => e = .returned (.bool true) ∧ Below w.heap.size w w' :=
  twice_small A1 c1 l1 a A ca b C cb w h1 o.1 o.2.1 o.2.2 p.1 p.2.1 p.2.2
end Go.Proofs.Ytjgiohlkpenipaa
