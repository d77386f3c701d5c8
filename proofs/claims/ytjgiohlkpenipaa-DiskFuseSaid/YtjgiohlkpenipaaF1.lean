/- The walk of DiskFuse. Conditions: as each theorem states them. -/
import Derived.Test.YtjgiohlkpenipaaF0
namespace Go.Proofs.Ytjgiohlkpenipaa
open Go.RowKit Go.Maps
set_option linter.unusedVariables false
set_option linter.unusedSimpArgs false

def noN : ByteArray := ⟨#[]⟩
set_option maxRecDepth 100000 in
set_option maxHeartbeats 8000000 in
theorem fuse_small (A1 : Option Addr) (c1 : Nat) (l1 : List Oq) (m : Int) (w : World) (h1 : RdO w A1 l1) :
    Calls Try.prog 5 #[.slice A1 l1.length c1, .int .i64 m] w fun e w' => e = .returned (.bool true) ∧ Below w.heap.size w w' := by
  have HL1 := Lib.hid (long_any A1 c1 l1 w h1)
  have HNw : Hid (∀ w, Calls Try.prog 10 #[.int .i64 268435456] w fun e w' => ∃ d, e = .returned (.tuple #[.pointer (some ⟨d, 0, none⟩), .int .i64 0]) ∧ Dk w' d (newS rm) w.heap.size ∧ Below w.heap.size w w') := Lib.hid (fun w => new_dk rm w (by unfold rm; omega))
  have HN := Lib.hid (HNw.out w)
  have R1 := Lib.hid h1
  obtain ⟨n1, hn1⟩ : ∃ n, l1.length = n := ⟨_, rfl⟩
  have HN1 := Lib.hid hn1
  rw [hn1] at HL1
  rw [hn1]
  clear h1 hn1
  by_cases hm : m < 1
  · go_enter Try.func5, Try.ntmps5
    go_wp2_with (fail)
    refine HL1.out.mono ?_
    rintro e w' ⟨⟨b1, rfl, hs1⟩, rfl⟩
    clear hs1
    cases b1 <;>
    · go_wp2_with (go_at_call 9; refine (awake_any _).mono ?_; rintro e w3 ⟨rfl, hb3⟩)
      go_ret
      exact ⟨rfl, hb3⟩
  by_cases hm2 : 1000 < m
  · go_enter Try.func5, Try.ntmps5
    go_wp2_with (fail)
    refine HL1.out.mono ?_
    rintro e w' ⟨⟨b1, rfl, hs1⟩, rfl⟩
    clear hs1
    cases b1 <;>
    · go_wp2_with (go_at_call 9; refine (awake_any _).mono ?_; rintro e w3 ⟨rfl, hb3⟩)
      go_ret
      exact ⟨rfl, hb3⟩
  obtain ⟨k, rfl⟩ : ∃ k : Nat, m = (k : Int) := ⟨m.toNat, by omega⟩
  have hk1 : 0 < k := by omega
  have hk2 : k ≤ 1000 := by omega
  have HLN := Lib.hid (lit_new hk1 rm)
  have g0 : (k : Int) < 9223372036854775808 := by omega
  have g1 : -9223372036854775808 ≤ (k : Int) := by omega
  have G := Lib.hid (And.intro hk1 (And.intro hk2 (And.intro g0 g1)))
  have q1 : ¬ (k : Int) < 1 := by omega
  have q2 : ¬ (1000 : Int) < (k : Int) := by omega
  have HIF : Hid (Inv ((newS rm).fuseTo k)) := Lib.hid (ivR.fuseTo g0)
  go_enter Try.func5, Try.ntmps5
  go_wp2_with (fail)
  refine HL1.out.mono ?_
  rintro e w' ⟨⟨b1, rfl, hs1⟩, rfl⟩
  cases b1 with
  | true =>
    clear hs1
    go_wp2_with (go_at_call 9; refine (awake_any _).mono ?_; rintro e w3 ⟨rfl, hb3⟩)
    go_ret
    exact ⟨rfl, hb3⟩
  | false =>
    have S1 := Lib.hid (hs1 rfl)
    clear hs1
    clear hk1 hk2 g0 g1 hm hm2
    go_wp2_with (fail)
    refine HN.out.mono ?_
    rintro r w1 ⟨d, rfl, hd1, hb1⟩
    have HD1 := Lib.hid hd1
    have HB1 := Lib.hid hb1
    clear hd1 hb1
    go_wp2_with (fail)
    refine (HNw.out _).mono ?_
    rintro r w2 ⟨f, rfl, hd2, hb2⟩
    have HD2 := Lib.hid (HD1.out.two HB1.out.size hb2 hd2)
    have HB2 := Lib.hid (HB1.out.trans (hb2.mono HB1.out.size))
    clear hd2 hb2
    have HFU := Lib.hid (fuse_dk2 HD2.out HB2.out.size G.out.2.2.1)
    unfold ptrV at HFU
    go_wp2_with (fail)
    refine HFU.out.mono ?_
    rintro r w3 ⟨rfl, hd3, hb3⟩
    have HD3 := Lib.hid hd3
    have HB3 := Lib.hid (HB2.out.trans hb3)
    clear hd3 hb3
    go_wp2_with (fail)
    go_loopw [9] (fun vi wr => ∃ i : Nat, i ≤ n1 ∧ vi = .int .i64 i ∧ ∃ s t, Dk2 wr d f s t w.heap.size ∧ Inv s ∧ Inv t ∧ Lit k s t ∧ t.steps ≤ i ∧ Below w.heap.size w wr) (fun i _ => n1 - (intOf i).toNat)
    case atStart => exact ⟨0, Nat.zero_le _, rfl, _, _, HD3.out, HIF.out, ivR, HLN.out, Nat.le_refl _, HB3.out⟩
    case round =>
      obtain ⟨i, hin, rfl, s, t, hdk, iv, it, hli, hst, hbl⟩ := hrel
      have HDK := Lib.hid hdk
      have IV := Lib.hid iv
      have IT := Lib.hid it
      have HLI := Lib.hid hli
      have HBL := Lib.hid hbl
      have hsle := hli.steps
      clear hdk iv it hli hbl
      have hn120 : n1 ≤ 120 := by rw [← HN1.out]; exact S1.out.1
      by_cases hi : i < n1
      · have hi0 : (0 : Int) ≤ (i : Int) := by omega
        have hi1 : (i : Int) < (n1 : Int) := by omega
        obtain ⟨b, off, rfl, hb, hcc⟩ := (R1.out.below HBL.out).1 (by rw [HN1.out]; omega)
        obtain ⟨u0, u1, u2, u3, u4⟩ := hcc i (by rw [HN1.out]; exact hi)
        obtain ⟨o, ho⟩ : ∃ o, l1.getD i zeroO = o := ⟨_, rfl⟩
        have hom : o ∈ l1 := by rw [← ho]; exact getO (by rw [HN1.out]; exact hi)
        have hoq := R1.out.2 o hom
        have hsm := S1.out.2 o hom
        rw [ho] at u0 u1 u2 u3 u4
        have HDO := Lib.hid (does_dk2 HDK.out IV.out (by omega) HBL.out.size o noN hoq.1 hsm.1 hoq.2.2.1.2)
        have HDP := Lib.hid (fun w' (h : Dk2 w' d f (s.does o noN) t w.heap.size) hB => does_dk2r h IT.out (by omega) hB o noN hoq.1 hsm.1 hoq.2.2.1.2)
        have HSM := Lib.hid hsm
        have HOQ := Lib.hid hoq
        unfold opV noN ptrV at HDO HDP
        clear ho hom hoq hsm
        have HCC := Lib.hid hcc
        clear hcc
        by_cases h7 : o.k = 7
        · have h7b : (o.k == 7) = true := by simp [h7]
          go_wp2_with (fail)
          exact ⟨⟨i + 1, by omega, by push_cast; rfl, s, t, HDK.out, IV.out, IT.out, HLI.out, by omega, HBL.out⟩, by simp [intOf]; omega⟩
        · have h7b : (o.k == 7) = false := by simp [h7]
          have HK7 := Lib.hid h7
          clear h7
          have hbw : b < w.heap.size := by
            obtain ⟨b', off', e1, hb', _⟩ := R1.out.1 (by rw [HN1.out]; omega)
            cases e1
            exact hb'
          go_wp2_with (fail)
          refine HDO.out.mono ?_
          rintro r w4 ⟨rfl, hd4, hb4⟩
          have y0 := (hb4.cell (p := ⟨b, _, none⟩) hbw).trans u0
          have y1 := (hb4.cell (p := ⟨b, _, none⟩) hbw).trans u1
          have y2 := (hb4.cell (p := ⟨b, _, none⟩) hbw).trans u2
          have y3 := (hb4.cell (p := ⟨b, _, none⟩) hbw).trans u3
          have y4 := (hb4.cell (p := ⟨b, _, none⟩) hbw).trans u4
          have hsz := HBL.out.size
          have hsz4 := (HBL.out.trans hb4).size
          have HD4 := Lib.hid hd4
          have HB4 := Lib.hid (HBL.out.trans hb4)
          clear hd4 hb4
          have hbw4 : b < w4.heap.size := Nat.lt_of_lt_of_le hbw HB4.out.size
          go_wp2_with (fail)
          refine (HDP.out w4 HD4.out HB4.out.size).mono ?_
          rintro r w5 ⟨rfl, hd5, hb5⟩
          have HD5 := Lib.hid hd5
          have HB5 := Lib.hid (HB4.out.trans hb5)
          clear hd5 hb5
          go_wp2_with (fail)
          exact ⟨⟨i + 1, by omega, by push_cast; rfl, s.does o noN, t.does o noN, HD5.out, IV.out.does (by omega) o noN HSM.out.1 HOQ.out.2.2.1.2, IT.out.does (by omega) o noN HSM.out.1 HOQ.out.2.2.1.2, HLI.out.does o noN HK7.out, by have := does_steps t o noN; omega, HB5.out⟩, by simp [intOf]; omega⟩
      · have hi1 : ¬ (i : Int) < (n1 : Int) := by omega
        have HSR := Lib.hid (steps_dk HDK.out.right)
        have HSL := Lib.hid (steps_dk HDK.out.left)
        have HDN := Lib.hid (down_dk HDK.out.left)
        unfold ptrV at HSR HSL HDN
        by_cases hlt : t.steps < k
        · obtain ⟨e1, e2, ha⟩ := HLI.out.alike hlt
          have HSA := Lib.hid (same_dk2 HDK.out IV.out IT.out ha)
          unfold ptrV at HSA
          rw [e1] at HSL
          rw [e2] at HDN
          have q1 : (t.steps : Int) < (k : Int) := by omega
          clear e1 e2 ha
          go_wp2_with (fail)
          refine HSR.out.mono ?_
          rintro r w' ⟨rfl, rfl⟩
          go_wp2_with (fail)
          refine HSL.out.mono ?_
          rintro r w' ⟨rfl, rfl⟩
          go_wp2_with (fail)
          refine HSR.out.mono ?_
          rintro r w' ⟨rfl, rfl⟩
          go_wp2_with (fail)
          refine HDN.out.mono ?_
          rintro r w' ⟨rfl, rfl⟩
          go_wp2_with (fail)
          refine HSA.out.mono ?_
          rintro r w6 ⟨rfl, hb6⟩
          have HB6 := Lib.hid (HBL.out.trans (hb6.mono HBL.out.size))
          clear hb6
          go_wp2_with (fail)
          refine (awake_any w6).mono ?_
          rintro e w9 ⟨rfl, hb9⟩
          go_wp2_with (fail)
          go_ret
          exact ⟨rfl, HB6.out.trans (hb9.mono HB6.out.size)⟩
        · obtain ⟨e1, e2⟩ := HLI.out.out hlt
          have e1 : (s.steps : Int) = (k : Int) - 1 := by omega
          rw [e1] at HSL
          rw [e2] at HDN
          have q1 : ¬ (t.steps : Int) < (k : Int) := by omega
          clear e1 e2
          go_wp2_with (fail)
          refine HSR.out.mono ?_
          rintro r w' ⟨rfl, rfl⟩
          go_wp2_with (fail)
          refine HSL.out.mono ?_
          rintro r w' ⟨rfl, rfl⟩
          go_wp2_with (fail)
          refine HDN.out.mono ?_
          rintro r w' ⟨rfl, rfl⟩
          go_wp2_with (fail)
          refine (awake_any _).mono ?_
          rintro e w9 ⟨rfl, hb9⟩
          go_wp2_with (fail)
          go_ret
          exact ⟨rfl, HBL.out.trans (hb9.mono HBL.out.size)⟩
theorem fuse_walk (A1 : Option Addr) (c1 : Nat) (l1 : List Oq) (m : Int) (w : World) (h1 : RdO w A1 l1) (hm : (Lit.int .i64 m).wf = true) :
    Calls Try.prog 5 #[.slice A1 l1.length c1, .int .i64 m] w fun e w' => e = .returned (.bool true) ∧ Below w.heap.size w w' := fuse_small A1 c1 l1 m w h1
end Go.Proofs.Ytjgiohlkpenipaa
