/- The walk of DiskSure. Conditions: as each theorem states them. -/
import Derived.Test.YtjgiohlkpenipaaD1
namespace Go.Proofs.Ytjgiohlkpenipaa
open Go.RowKit Go.Maps
set_option linter.unusedVariables false
set_option linter.unusedSimpArgs false

theorem does_dk {w : World} {d : Nat} {s : DS} {B : Nat} (h : Dk w d s B) (iv : Inv s) (hs : s.steps < 1000000) (hB : B ≤ w.heap.size) (o : Oq) (name : ByteArray) (hn : okN o.nm) (hd : o.dt.size ≤ 2000) (hnn : o.n < 9223372036854775808) :
    Calls Try.prog 19 #[ptrV d, opV o, .string name] w fun r w' => r = .returned (.tuple #[]) ∧ Dk w' d (s.does o name) B ∧ Below B w w' := by
  obtain ⟨L, rfl, hd', hf⟩ := h
  exact (does_any L s o name w hd' iv hs hn hd hnn).mono (fun r w' h => h.dk hB hf)
theorem Dk.lt {w : World} {d : Nat} {s : DS} {B : Nat} (h : Dk w d s B) : ∀ i, s.has i → i < s.files.length := by
  obtain ⟨L, _, hd, _⟩ := h
  exact fun i hi => (hd.file i hi).2
theorem RdC.mono {w w' : World} {A : Option Addr} {l : List Int} {B : Nat} (h : RdC w A l) (k : Below B w w') (ho : 0 < l.length → ChA B A) : RdC w' A l :=
  h.kw (S := fun b => B ≤ b) ⟨k.os, k.tape, k.output, k.size, fun b hb hs => k.block b (by omega)⟩ (fun hp a ha e => by have := ho hp a ha; omega)
theorem ivR : Inv (newS rm) := Inv.new (by unfold rm; omega)
theorem clearR : Clear (newS rm) bK := ⟨rfl, rfl, fun i hi => by cases hi⟩
set_option maxRecDepth 100000 in
set_option maxHeartbeats 8000000 in
theorem sure_small (A1 : Option Addr) (c1 : Nat) (l1 : List Oq) (A2 : Option Addr) (c2 : Nat) (l2 : List Oq) (data more : ByteArray) (cs : List Int) (A : Option Addr) (c : Nat) (w : World)
    (h1 : RdO w A1 l1) (h2 : RdO w A2 l2) (hA : RdC w A cs) (hc : cs.length ≤ c) (hoff : 0 < cs.length → ChA w.heap.size A) :
    Calls Try.prog 4 #[.slice A1 l1.length c1, .slice A2 l2.length c2, .string data, .string more, .slice A cs.length c] w fun e w' => e = .returned (.bool true) ∧ Below w.heap.size w w' := by
  have HL1 := Lib.hid (long_any A1 c1 l1 w h1)
  have HL2 := Lib.hid (long_any A2 c2 l2 w h2)
  have HN := Lib.hid (new_dk rm w (by unfold rm; omega))
  have R1 := Lib.hid h1
  have R2 := Lib.hid h2
  have RC := Lib.hid hA
  have HOFF := Lib.hid hoff
  have HC := Lib.hid hc
  obtain ⟨n1, hn1⟩ : ∃ n, l1.length = n := ⟨_, rfl⟩
  obtain ⟨n2, hn2⟩ : ∃ n, l2.length = n := ⟨_, rfl⟩
  obtain ⟨m, hm⟩ : ∃ m, cs.length = m := ⟨_, rfl⟩
  obtain ⟨ds, hds⟩ : ∃ x, data.size = x := ⟨_, rfl⟩
  obtain ⟨ms, hms⟩ : ∃ x, more.size = x := ⟨_, rfl⟩
  have HN1 := Lib.hid hn1
  have HN2 := Lib.hid hn2
  have HM := Lib.hid hm
  rw [hn1] at HL1
  rw [hn2] at HL2
  rw [hn1, hn2, hm]
  clear h1 h2 hA hc hoff hn1 hn2 hm
  unfold rm ptrV at HN
  go_enter Try.func4, Try.ntmps4
  go_wp2_with (fail)
  refine HL1.out.mono ?_
  rintro e w' ⟨⟨b1, rfl, hs1⟩, rfl⟩
  cases b1 with
  | true =>
    clear hs1
    go_wp2_with (go_at_call 9; refine (awake_any _).mono ?_; rintro e w3 ⟨rfl, hb3⟩)
    go_ret
    exact ⟨rfl, hb3⟩
  | false =>
    have S1 := Lib.hid (hs1 rfl)
    clear hs1
    go_wp2_with (fail)
    refine HL2.out.mono ?_
    rintro e w' ⟨⟨b2, rfl, hs2⟩, rfl⟩
    cases b2 with
    | true =>
      clear hs2
      go_wp2_with (go_at_call 9; refine (awake_any _).mono ?_; rintro e w3 ⟨rfl, hb3⟩)
      go_ret
      exact ⟨rfl, hb3⟩
    | false =>
      have S2 := Lib.hid (hs2 rfl)
      clear hs2
      by_cases hbig : 2000 < ds ∨ 2000 < ms ∨ 300 < m
      · have hx : (2000 : Int) < (ds : Int) ∨ (2000 : Int) < (ms : Int) ∨ (300 : Int) < (m : Int) := by omega
        clear hbig
        by_cases hx1 : (2000 : Int) < (ds : Int)
        · clear hx
          go_wp2_with (go_at_call 9; refine (awake_any _).mono ?_; rintro e w3 ⟨rfl, hb3⟩)
          go_ret
          exact ⟨rfl, hb3⟩
        · by_cases hx2 : (2000 : Int) < (ms : Int)
          · clear hx
            go_wp2_with (go_at_call 9; refine (awake_any _).mono ?_; rintro e w3 ⟨rfl, hb3⟩)
            go_ret
            exact ⟨rfl, hb3⟩
          · have hx3 : (300 : Int) < (m : Int) := by omega
            clear hx
            go_wp2_with (go_at_call 9; refine (awake_any _).mono ?_; rintro e w3 ⟨rfl, hb3⟩)
            go_ret
            exact ⟨rfl, hb3⟩
      · have hx1 : ¬ (2000 : Int) < (ds : Int) := by omega
        have hx2 : ¬ (2000 : Int) < (ms : Int) := by omega
        have hx3 : ¬ (300 : Int) < (m : Int) := by omega
        have hdb : data.size ≤ 2000 := by omega
        have hmb : more.size ≤ 2000 := by omega
        have HDB := Lib.hid hdb
        have HMB := Lib.hid hmb
        clear hbig hdb hmb
        go_wp2_with (fail)
        refine HN.out.mono ?_
        rintro r w1 ⟨d, rfl, hd1, hb1⟩
        have HD1 := Lib.hid hd1
        have HB1 := Lib.hid hb1
        clear hd1 hb1
        go_wp2_with (fail)
        go_loopw [13] (fun vi wr => ∃ i : Nat, i ≤ n1 ∧ vi = .int .i64 i ∧ ∃ s, Dk wr d s w.heap.size ∧ Inv s ∧ Clear s bK ∧ s.room = rm ∧ s.steps ≤ i ∧ Below w.heap.size w wr) (fun i _ => n1 - (intOf i).toNat)
        case atStart => exact ⟨0, Nat.zero_le _, rfl, newS rm, HD1.out, ivR, clearR, rfl, Nat.le_refl _, HB1.out⟩
        case round =>
          obtain ⟨i, hin, rfl, s, hdk, iv, hcl, hrm, hst, hbl⟩ := hrel
          have HDK := Lib.hid hdk
          have IV := Lib.hid iv
          have HCL := Lib.hid hcl
          have HRM := Lib.hid hrm
          have HBL := Lib.hid hbl
          clear hdk iv hcl hrm hbl
          have hn120 : n1 ≤ 120 := by rw [← HN1.out]; exact S1.out.1
          by_cases hi : i < n1
          · have hi0 : (0 : Int) ≤ (i : Int) := by omega
            have hi1 : (i : Int) < (n1 : Int) := by omega
            obtain ⟨b, off, rfl, hb, hcc⟩ := (R1.out.below HBL.out).1 (by rw [HN1.out]; omega)
            obtain ⟨u0, u1, u2, u3, u4⟩ := hcc i (by rw [HN1.out]; exact hi)
            obtain ⟨o, ho⟩ : ∃ o, l1.getD i zeroO = o := ⟨_, rfl⟩
            have hom : o ∈ l1 := by rw [← ho]; exact getO (by rw [HN1.out]; exact hi)
            have hoq := R1.out.2 o hom
            have hsm := S1.out.2 o hom
            rw [ho] at u0 u1 u2 u3 u4
            have HDO := Lib.hid (does_dk HDK.out IV.out (by omega) HBL.out.size o bK hoq.1 hsm.1 hoq.2.2.1.2)
            have HSM := Lib.hid hsm
            have HOQ := Lib.hid hoq
            unfold opV bK ptrV at HDO
            clear hcc ho hom hoq hsm
            by_cases h7 : o.k = 7
            · have h7b : (o.k == 7) = true := by simp [h7]
              go_wp2_with (fail)
              exact ⟨⟨i + 1, by omega, by push_cast; rfl, s, HDK.out, IV.out, HCL.out, HRM.out, by omega, HBL.out⟩, by simp [intOf]; omega⟩
            · have h7b : (o.k == 7) = false := by simp [h7]
              have HK7 := Lib.hid h7
              clear h7
              go_wp2_with (fail)
              refine HDO.out.mono ?_
              rintro r w3 ⟨rfl, hd3, hb3⟩
              have HD3 := Lib.hid hd3
              have HB3 := Lib.hid (HBL.out.trans hb3)
              clear hd3 hb3
              go_wp2_with (fail)
              exact ⟨⟨i + 1, by omega, by push_cast; rfl, s.does o bK, HD3.out, IV.out.does (by omega) o bK HSM.out.1 HOQ.out.2.2.1.2, HCL.out.does neK o HK7.out, (does_room s o bK).trans HRM.out, by have := does_steps s o bK; omega, HB3.out⟩, by simp [intOf]; omega⟩
          · have hi1 : ¬ (i : Int) < (n1 : Int) := by omega
            obtain ⟨t1, t2, t3, t4, t5, q, e1, e2, e3, e4, e5, i1, i2, i3, i4, i5, z1, z2, z3, z4, z5, hsafe⟩ := sure_chain IV.out (by omega) HRM.out HCL.out HDK.out.lt HDB.out HMB.out
            have H0 := Lib.hid (create_dk HDK.out IV.out (by omega) HBL.out.size okK)
            rw [e1] at H0
            have H1 := Lib.hid (fun w' (h : Dk w' d t1 w.heap.size) (hB : w.heap.size ≤ w'.heap.size) => append_dk (data := data) h i1 (by omega) hB okK HDB.out)
            rw [e2] at H1
            have H2 := Lib.hid (fun w' (h : Dk w' d t2 w.heap.size) (hB : w.heap.size ≤ w'.heap.size) => sync_dk h i2 (by omega) hB okK)
            rw [e3] at H2
            have H3 := Lib.hid (fun w' (h : Dk w' d t3 w.heap.size) (hB : w.heap.size ≤ w'.heap.size) => syncdir_dk h i3 (by omega) hB)
            rw [e4] at H3
            have H4 := Lib.hid (fun w' (h : Dk w' d t4 w.heap.size) (hB : w.heap.size ≤ w'.heap.size) => append_dk (data := more) h i4 (by omega) hB okK HMB.out)
            rw [e5] at H4
            have I5 := Lib.hid i5
            have HSF := Lib.hid hsafe
            have Z5 := Lib.hid z5
            clear e1 e2 e3 e4 e5 i1 i2 i3 i4 i5 z1 z2 z3 z4 z5 hsafe
            unfold bK at H0 H1 H2 H4
            unfold ptrV at H0 H1 H2 H3 H4
            dsimp only at H0 H1 H2 H3 H4
            go_wp2_with (fail)
            refine H0.out.mono ?_
            rintro r w2 ⟨rfl, hd, hb⟩
            have D2 := Lib.hid hd
            have B2 := Lib.hid (HBL.out.trans hb)
            clear hd hb
            go_wp2_with (fail)
            refine (H1.out w2 D2.out B2.out.size).mono ?_
            rintro r w3 ⟨rfl, hd, hb⟩
            have D3 := Lib.hid hd
            have B3 := Lib.hid (B2.out.trans hb)
            clear hd hb
            go_wp2_with (fail)
            refine (H2.out w3 D3.out B3.out.size).mono ?_
            rintro r w4 ⟨rfl, hd, hb⟩
            have D4 := Lib.hid hd
            have B4 := Lib.hid (B3.out.trans hb)
            clear hd hb
            go_wp2_with (fail)
            refine (H3.out w4 D4.out B4.out.size).mono ?_
            rintro r w5 ⟨rfl, hd, hb⟩
            have D5 := Lib.hid hd
            have B5 := Lib.hid (B4.out.trans hb)
            clear hd hb
            go_wp2_with (fail)
            refine (H4.out w5 D5.out B5.out.size).mono ?_
            rintro r w6 ⟨rfl, hd, hb⟩
            have D6 := Lib.hid hd
            have B6 := Lib.hid (B5.out.trans hb)
            clear hd hb
            go_wp2_with (fail)
            go_loopw [14] (fun vi wr => ∃ j : Nat, j ≤ n2 ∧ vi = .int .i64 j ∧ ∃ s, Dk wr d s w.heap.size ∧ Inv s ∧ Safe s bK q ⟨data ++ more, data.size⟩ ∧ s.steps ≤ 200 + j ∧ Below w.heap.size w wr) (fun i _ => n2 - (intOf i).toNat)
            case atStart => exact ⟨0, Nat.zero_le _, rfl, t5, D6.out, I5.out, HSF.out, Z5.out, B6.out⟩
            case round =>
              obtain ⟨j, hjn, rfl, s', hdk, iv, hsf, hst', hbl⟩ := hrel
              have HDK := Lib.hid hdk
              have IV := Lib.hid iv
              have HSF := Lib.hid hsf
              have HBL := Lib.hid hbl
              clear hdk iv hsf hbl
              have hn121 : n2 ≤ 120 := by rw [← HN2.out]; exact S2.out.1
              by_cases hj : j < n2
              · have hj0 : (0 : Int) ≤ (j : Int) := by omega
                have hj1 : (j : Int) < (n2 : Int) := by omega
                obtain ⟨b, off, rfl, hb, hcc⟩ := (R2.out.below HBL.out).1 (by rw [HN2.out]; omega)
                obtain ⟨u0, u1, u2, u3, u4⟩ := hcc j (by rw [HN2.out]; exact hj)
                obtain ⟨o, ho⟩ : ∃ o, l2.getD j zeroO = o := ⟨_, rfl⟩
                have hom : o ∈ l2 := by rw [← ho]; exact getO (by rw [HN2.out]; exact hj)
                have hoq := R2.out.2 o hom
                have hsm := S2.out.2 o hom
                rw [ho] at u0 u1 u2 u3 u4
                have HDO := Lib.hid (does_dk HDK.out IV.out (by omega) HBL.out.size o bK hoq.1 hsm.1 hoq.2.2.1.2)
                have HSM := Lib.hid hsm
                have HOQ := Lib.hid hoq
                unfold opV bK ptrV at HDO
                clear hcc ho hom hoq hsm
                go_wp2_with (fail)
                refine HDO.out.mono ?_
                rintro r w7 ⟨rfl, hd7, hb7⟩
                have HD7 := Lib.hid hd7
                have HB7 := Lib.hid (HBL.out.trans hb7)
                clear hd7 hb7
                go_wp2_with (fail)
                exact ⟨⟨j + 1, by omega, by push_cast; rfl, s'.does o bK, HD7.out, IV.out.does (by omega) o bK HSM.out.1 HOQ.out.2.2.1.2, HSF.out.does neK o, by have := does_steps s' o bK; omega, HB7.out⟩, by simp [intOf]; omega⟩
              · have hj1 : ¬ (j : Int) < (n2 : Int) := by omega
                obtain ⟨k, hk1, hk2, hrd, hdn⟩ := HSF.out.crash IV.out cs
                dsimp only at hk1 hk2 hrd
                have hkw : k ≤ (data ++ more).size := hk2
                rw [ByteArray.size_append] at hk2
                have HCR := Lib.hid (crash_arg (c := c) HDK.out IV.out HBL.out.size (RC.out.mono HBL.out HOFF.out) HC.out HOFF.out)
                rw [HM.out] at HCR
                have HRD := Lib.hid (fun w' (h : Dk w' d (s'.crash cs) w.heap.size) => read_dk h okK)
                rw [hrd] at HRD
                have HDN := Lib.hid (fun w' (h : Dk w' d (s'.crash cs) w.heap.size) => down_dk h)
                rw [hdn] at HDN
                obtain ⟨sv, hsv⟩ : ∃ sv, (data ++ more).extract 0 k = sv := ⟨_, rfl⟩
                have hsvs : sv.size = k := by
                  rw [← hsv]
                  rw [ByteArray.size_extract]
                  omega
                rw [hsv] at HRD
                have hws : (data ++ more).size = ds + ms := by rw [ByteArray.size_append, hds, hms]
                rw [hds] at hk1
                rw [hds, hms] at hk2
                have g1 : (ds : Int) ≤ (k : Int) := by omega
                have g2 : (k : Int) ≤ (ds : Int) + (ms : Int) := by omega
                have g3 : ¬ 9223372036854775807 < ds + ms := by omega
                clear hrd hdn hkw
                unfold bK at HRD
                unfold ptrV at HCR HRD HDN
                go_wp2_with (fail)
                refine HCR.out.mono ?_
                rintro r w8 ⟨rfl, hd, hb⟩
                have D8 := Lib.hid hd
                have B8 := Lib.hid (HBL.out.trans hb)
                clear hd hb
                go_wp2_with (fail)
                refine (HRD.out w8 D8.out).mono ?_
                rintro r w' ⟨rfl, rfl⟩
                go_wp2_with (fail)
                refine (HDN.out w8 D8.out).mono ?_
                rintro r w' ⟨rfl, rfl⟩
                go_wp2_with (fail)
                refine (awake_any w8).mono ?_
                rintro e w9 ⟨rfl, hb9⟩
                go_wp2_with (fail)
                go_ret
                exact ⟨rfl, B8.out.trans (hb9.mono B8.out.size)⟩
theorem sure_walk (A1 : Option Addr) (c1 : Nat) (l1 : List Oq) (A2 : Option Addr) (c2 : Nat) (l2 : List Oq) (data more : ByteArray) (A : Option Addr) (c : Nat) (cs : List Int) (w : World)
    (h1 : RdO w A1 l1) (h2 : RdO w A2 l2) (hd : data.size ≤ 140737488351232) (hm : more.size ≤ 140737488351232) (o : RdC w A cs ∧ cs.length ≤ c ∧ (0 < cs.length → ChA w.heap.size A)) :
    Calls Try.prog 4 #[.slice A1 l1.length c1, .slice A2 l2.length c2, .string data, .string more, .slice A cs.length c] w fun e w' => e = .returned (.bool true) ∧ Below w.heap.size w w' :=
  sure_small A1 c1 l1 A2 c2 l2 data more cs A c w h1 h2 o.1 o.2.1 o.2.2
end Go.Proofs.Ytjgiohlkpenipaa
