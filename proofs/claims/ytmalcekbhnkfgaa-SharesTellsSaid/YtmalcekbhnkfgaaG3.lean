/- The walk of SharesEmpty. Conditions: as each theorem states them. -/
import Derived.Test.YtmalcekbhnkfgaaG1
namespace Go.Proofs.Ytmalcekbhnkfgaa
open Go.RowKit Go.Maps Go.Shelf
set_option linter.unusedVariables false
set_option linter.unusedSimpArgs false

set_option maxRecDepth 100000 in
set_option maxHeartbeats 16000000 in
theorem sempty_small (A : Option Addr) (n c : Nat) (AT : Option Addr) (nt ct : Nat) (AS : Option Addr) (ns cs : Nat) (l : List Pt) (tt ss : List Int) (W : World) (hl : l.length = n) (htl : tt.length = nt) (hsl : ss.length = ns)
    (hA : RdP W W.heap.size A l) (hT : RdN W AT tt) (hS : RdI W W.heap.size AS ss) (htc : ∀ x ∈ tt, (Lit.int .i64 x).wf = true) :
    Calls Try.prog 9 #[.slice A n c, .slice AT nt ct, .slice AS ns cs] W fun e W' => e = .returned (.bool true) ∧ Below W.heap.size W W' := by
  have HLN := Lib.hid hl
  have HA := Lib.hid hA
  have HTL := Lib.hid htl
  have HSL := Lib.hid hsl
  have HT := Lib.hid hT
  have HS := Lib.hid hS
  have HTC := Lib.hid htc
  have HG := Lib.hid (great_any A c l W hA)
  have HR := Lib.hid (fun (w' : World) (h : Below W.heap.size W w') => right_any A c l w' ((hA.below h).more h.size (Nat.le_refl _)))
  rw [hl] at HG HR
  clear hl hA htl hsl hT hS htc
  go_enter Try.func9, Try.ntmps9
  go_wp2_with (fail)
  refine HG.out.mono ?_
  rintro e w' ⟨⟨b, rfl, hsm⟩, rfl⟩
  cases b with
  | true =>
    clear hsm
    go_wp2_with (go_at_call 11; refine (awake_any _).mono ?_; rintro e w3 ⟨rfl, hb3⟩)
    go_ret
    exact ⟨rfl, hb3⟩
  | false =>
    clear hsm
    by_cases h3 : ns ≤ 300
    · have h3i : ¬ (300 : Int) < (ns : Int) := by omega
      have h3d : decide ((300 : Int) < (ns : Int)) = false := decide_eq_false h3i
      go_wp2_with ((go_at_call 16; refine Hid.out ?_))
      refine Lib.hid ?_
      refine (HR.out W (Below.refl _ _)).mono ?_
      rintro e w1 ⟨rfl, hb1⟩
      have HB1 := Lib.hid hb1
      clear hb1
      by_cases hr : RightP l
      · rw [rightB_t hr]
        have HRP := Lib.hid hr
        have hn16 : n ≤ 16 := by have := hr.1; rw [HLN.out] at this; exact this
        clear hr
        go_wp2_with (fail)
        go_loopw [7, 8] (fun vo vi wr => ∃ (i : Nat) (A' : Option Addr) (c' m : Nat) (L : List Pt), i ≤ n ∧ vi = .int .i64 i ∧ vo = .slice A' m c' ∧ L.length = m ∧ m + i = n ∧ RightP L ∧ RdP wr wr.heap.size A' L ∧ Below W.heap.size W wr) (fun _ i _ => n - (intOf i).toNat)
        case atStart => exact ⟨0, A, c, n, l, Nat.zero_le _, rfl, rfl, HLN.out, rfl, HRP.out, (HA.out.below HB1.out).more HB1.out.size (Nat.le_refl _), HB1.out⟩
        case round =>
          obtain ⟨i, A', c', m, L, hin, rfl, rfl, hLm, hmi, hrL, hrd, hbl⟩ := hrel
          have HLM := Lib.hid hLm
          have HRL := Lib.hid hrL
          have HRD := Lib.hid hrd
          have HBL := Lib.hid hbl
          have hws := hbl.size
          have HMI := Lib.hid hmi
          by_cases hi : i < n
          · have hm0 : 0 < m := by omega
            have hm16 : m ≤ 16 := by omega
            have hi0 : (0 : Int) ≤ (i : Int) := by omega
            have hi1 : (i : Int) < (n : Int) := by omega
            have hmI : (0 : Int) < (m : Int) := by omega
            have hmne : ¬ (m : Int) = 0 := by omega
            clear hLm hrL hrd hbl hmi
            by_cases hit : i < nt
            · have hit1 : (i : Int) < (nt : Int) := by omega
              obtain ⟨tb, to, rfl, htb, htc⟩ := HT.out (by rw [HTL.out]; omega)
              have a0 := htc i (by rw [HTL.out]; exact hit)
              have htw := HTC.out (tt.getD i 0) (by rw [getI (by rw [HTL.out]; exact hit)]; exact List.getElem_mem _)
              obtain ⟨t, ht⟩ : ∃ t, tt.getD i 0 = t := ⟨_, rfl⟩
              rw [ht] at a0 htw
              have a0 := (HBL.out.cell (p := ⟨tb, to + i, none⟩) htb).trans a0
              have htbw : tb < wr.heap.size := by omega
              clear htc ht
              have hlt := Int.tmod_lt_of_pos t hmI
              have hgt := Int.lt_tmod_of_pos t hmI
              by_cases hneg : t.tmod (m : Int) < 0
              · obtain ⟨kk, hkk⟩ : ∃ kk : Nat, t.tmod (m : Int) + (m : Int) = (kk : Int) := ⟨(t.tmod (m : Int) + (m : Int)).toNat, by omega⟩
                have hkm : kk < m := by omega
                clear hlt hgt
                obtain ⟨lb, lo, hle, hlb, _, hlc⟩ := HRD.out.1 (by rw [HLM.out]; exact hm0)
                subst hle
                obtain ⟨d0, _⟩ := hlc kk (by rw [HLM.out]; exact hkm)
                obtain ⟨id, hid⟩ : ∃ id, (L.getD kk zeroP).id = id := ⟨_, rfl⟩
                rw [hid] at d0
                have HE : Hid (dropE L id = 0) := Lib.hid (dropE_0 HRL.out (getP_mem (by rw [HLM.out]; exact hkm)) hid)
                obtain ⟨q, hq⟩ : ∃ q, (dropL L id).length = q := ⟨_, rfl⟩
                have hqm : q + 1 = m := by rw [← hq, ← hid, dropL_one HRL.out (by rw [HLM.out]; exact hkm), HLM.out]
                have HQ := Lib.hid hq
                have HQM := Lib.hid hqm
                have hq1 : (m : Int) - 1 = (q : Int) := by omega
                have HD := Lib.hid (drop_any (some ⟨lb, lo, none⟩) c' id L wr HRD.out)
                rw [HLM.out] at HD
                have hkk0 : (0 : Int) ≤ (kk : Int) := by omega
                have hkk1 : (kk : Int) < (m : Int) := by omega
                clear hlc hid hq hqm
                go_wp2_with ((go_at_call 26; refine Hid.out ?_))
                refine Lib.hid ?_
                refine HD.out.mono ?_
                rintro e w5 ⟨v, rfl, _, hv1, hb5⟩
                obtain ⟨A5, c5, l5, rfl, hs5, ho5⟩ := hv1 HE.out
                rw [HE.out, HQ.out]
                have hl5 : l5.length = q := by rw [hs5.1, HQ.out]
                have HL5 := Lib.hid hl5
                have HR5 : Hid (RightP l5) := Lib.hid ((right_same hs5).2 (right_drop HRL.out id))
                have HO5 := Lib.hid ho5.rd
                have HB5 := Lib.hid (HBL.out.trans (hb5.mono hws))
                have HRX := Lib.hid (right_any A5 c5 l5 w5 ho5.rd)
                rw [rightB_t HR5.out, hl5] at HRX
                clear hv1 hs5 ho5 hb5 hl5 HD
                go_wp2_with ((go_at_call 16; refine Hid.out ?_))
                refine Lib.hid ?_
                refine HRX.out.mono ?_
                rintro e w6 ⟨rfl, hb6⟩
                have HB6 := Lib.hid (HB5.out.trans (hb6.mono HB5.out.size))
                have HO6 := Lib.hid ((HO5.out.below hb6).more hb6.size (Nat.le_refl _))
                have hqi : q + (i + 1) = n := by have h1 := HQM.out; have h2 := HMI.out; omega
                have HQI := Lib.hid hqi
                clear hb6 hqi hq1
                go_wp2_with (fail)
                go_roundw
                case rel => exact ⟨i + 1, A5, c5, q, l5, by omega, by first | rfl | (push_cast; rfl) | go_num, by first | trivial | rfl, HL5.out, HQI.out, HR5.out, HO6.out, HB6.out⟩
                case measure => simp [intOf]; omega
              · obtain ⟨kk, hkk⟩ : ∃ kk : Nat, t.tmod (m : Int) = (kk : Int) := ⟨(t.tmod (m : Int)).toNat, by omega⟩
                have hkm : kk < m := by omega
                have hnn : ¬ (kk : Int) < 0 := by omega
                clear hlt hgt hneg
                obtain ⟨lb, lo, hle, hlb, _, hlc⟩ := HRD.out.1 (by rw [HLM.out]; exact hm0)
                subst hle
                obtain ⟨d0, _⟩ := hlc kk (by rw [HLM.out]; exact hkm)
                obtain ⟨id, hid⟩ : ∃ id, (L.getD kk zeroP).id = id := ⟨_, rfl⟩
                rw [hid] at d0
                have HE : Hid (dropE L id = 0) := Lib.hid (dropE_0 HRL.out (getP_mem (by rw [HLM.out]; exact hkm)) hid)
                obtain ⟨q, hq⟩ : ∃ q, (dropL L id).length = q := ⟨_, rfl⟩
                have hqm : q + 1 = m := by rw [← hq, ← hid, dropL_one HRL.out (by rw [HLM.out]; exact hkm), HLM.out]
                have HQ := Lib.hid hq
                have HQM := Lib.hid hqm
                have hq1 : (m : Int) - 1 = (q : Int) := by omega
                have HD := Lib.hid (drop_any (some ⟨lb, lo, none⟩) c' id L wr HRD.out)
                rw [HLM.out] at HD
                have hkk0 : (0 : Int) ≤ (kk : Int) := by omega
                have hkk1 : (kk : Int) < (m : Int) := by omega
                clear hlc hid hq hqm
                go_wp2_with ((go_at_call 26; refine Hid.out ?_))
                refine Lib.hid ?_
                refine HD.out.mono ?_
                rintro e w5 ⟨v, rfl, _, hv1, hb5⟩
                obtain ⟨A5, c5, l5, rfl, hs5, ho5⟩ := hv1 HE.out
                rw [HE.out, HQ.out]
                have hl5 : l5.length = q := by rw [hs5.1, HQ.out]
                have HL5 := Lib.hid hl5
                have HR5 : Hid (RightP l5) := Lib.hid ((right_same hs5).2 (right_drop HRL.out id))
                have HO5 := Lib.hid ho5.rd
                have HB5 := Lib.hid (HBL.out.trans (hb5.mono hws))
                have HRX := Lib.hid (right_any A5 c5 l5 w5 ho5.rd)
                rw [rightB_t HR5.out, hl5] at HRX
                clear hv1 hs5 ho5 hb5 hl5 HD
                go_wp2_with ((go_at_call 16; refine Hid.out ?_))
                refine Lib.hid ?_
                refine HRX.out.mono ?_
                rintro e w6 ⟨rfl, hb6⟩
                have HB6 := Lib.hid (HB5.out.trans (hb6.mono HB5.out.size))
                have HO6 := Lib.hid ((HO5.out.below hb6).more hb6.size (Nat.le_refl _))
                have hqi : q + (i + 1) = n := by have h1 := HQM.out; have h2 := HMI.out; omega
                have HQI := Lib.hid hqi
                clear hb6 hqi hq1
                go_wp2_with (fail)
                go_roundw
                case rel => exact ⟨i + 1, A5, c5, q, l5, by omega, by first | rfl | (push_cast; rfl) | go_num, by first | trivial | rfl, HL5.out, HQI.out, HR5.out, HO6.out, HB6.out⟩
                case measure => simp [intOf]; omega
            · have hit1 : ¬ (i : Int) < (nt : Int) := by omega
              have hkm : 0 < m := hm0
              obtain ⟨lb, lo, hle, hlb, _, hlc⟩ := HRD.out.1 (by rw [HLM.out]; exact hm0)
              subst hle
              obtain ⟨d0, _⟩ := hlc 0 (by rw [HLM.out]; exact hkm)
              obtain ⟨id, hid⟩ : ∃ id, (L.getD 0 zeroP).id = id := ⟨_, rfl⟩
              rw [hid] at d0
              simp only [Nat.zero_mul, Nat.add_zero] at d0
              have HE : Hid (dropE L id = 0) := Lib.hid (dropE_0 HRL.out (getP_mem (by rw [HLM.out]; exact hkm)) hid)
              obtain ⟨q, hq⟩ : ∃ q, (dropL L id).length = q := ⟨_, rfl⟩
              have hqm : q + 1 = m := by rw [← hq, ← hid, dropL_one HRL.out (by rw [HLM.out]; exact hkm), HLM.out]
              have HQ := Lib.hid hq
              have HQM := Lib.hid hqm
              have hq1 : (m : Int) - 1 = (q : Int) := by omega
              have HD := Lib.hid (drop_any (some ⟨lb, lo, none⟩) c' id L wr HRD.out)
              rw [HLM.out] at HD
              have hkk1 : (0 : Int) < (m : Int) := by omega
              clear hlc hid hq hqm
              go_wp2_with ((go_at_call 26; refine Hid.out ?_))
              refine Lib.hid ?_
              refine HD.out.mono ?_
              rintro e w5 ⟨v, rfl, _, hv1, hb5⟩
              obtain ⟨A5, c5, l5, rfl, hs5, ho5⟩ := hv1 HE.out
              rw [HE.out, HQ.out]
              have hl5 : l5.length = q := by rw [hs5.1, HQ.out]
              have HL5 := Lib.hid hl5
              have HR5 : Hid (RightP l5) := Lib.hid ((right_same hs5).2 (right_drop HRL.out id))
              have HO5 := Lib.hid ho5.rd
              have HB5 := Lib.hid (HBL.out.trans (hb5.mono hws))
              have HRX := Lib.hid (right_any A5 c5 l5 w5 ho5.rd)
              rw [rightB_t HR5.out, hl5] at HRX
              clear hv1 hs5 ho5 hb5 hl5 HD
              go_wp2_with ((go_at_call 16; refine Hid.out ?_))
              refine Lib.hid ?_
              refine HRX.out.mono ?_
              rintro e w6 ⟨rfl, hb6⟩
              have HB6 := Lib.hid (HB5.out.trans (hb6.mono HB5.out.size))
              have HO6 := Lib.hid ((HO5.out.below hb6).more hb6.size (Nat.le_refl _))
              have hqi : q + (i + 1) = n := by have h1 := HQM.out; have h2 := HMI.out; omega
              have HQI := Lib.hid hqi
              clear hb6 hqi hq1
              go_wp2_with (fail)
              go_roundw
              case rel => exact ⟨i + 1, A5, c5, q, l5, by omega, by first | rfl | (push_cast; rfl) | go_num, by first | trivial | rfl, HL5.out, HQI.out, HR5.out, HO6.out, HB6.out⟩
              case measure => simp [intOf]; omega
          · have hine : n = i := by omega
            subst hine
            have hirr : ¬ (n : Int) < (n : Int) := by omega
            obtain rfl : m = 0 := by omega
            obtain rfl : L = [] := List.length_eq_zero_iff.1 hLm
            have hLs := HSL.out
            have HSW := Lib.hid ((HS.out.below HBL.out).more hws (Nat.le_refl _))
            have HCN := Lib.hid (counts_none A' c' [] wr HRD.out cntL_nil)
            have hc := loose_any A' c' [] AS ns cs ss
            clear hLs hLm hrL hrd hbl hmi
            go_wp2_with ((go_at_call 19; refine Hid.out ?_))
            refine Lib.hid ?_
            refine HCN.out.mono ?_
            rintro e w5 ⟨rfl, hb5⟩
            have HB5 := Lib.hid (HBL.out.trans (hb5.mono hws))
            have HLO := Lib.hid (hc w5 ((HRD.out.below hb5).more hb5.size (Nat.le_refl _)) ((HSW.out.below hb5).more hb5.size (Nat.le_refl _)) HSL.out (by omega))
            rw [cntL_nil, notIn_nil, HSL.out] at HLO
            clear hb5 hc
            go_wp2_with ((go_at_call 20; refine Hid.out ?_))
            refine Lib.hid ?_
            refine HLO.out.mono ?_
            rintro e w6 ⟨vo, rfl, hown, hb6⟩
            obtain ⟨A6, c6, rfl⟩ : ∃ A6 c6, vo = .slice A6 ns c6 := by
              rcases own_form hown with ⟨rfl, h0⟩ | ⟨g, c6, rfl, _⟩
              · exact ⟨none, 0, by rw [h0]⟩
              · exact ⟨_, c6, rfl⟩
            have HB6 := Lib.hid (HB5.out.trans (hb6.mono HB5.out.size))
            clear hown hb6
            go_wp2_with (go_at_call 11; refine (awake_any _).mono ?_; rintro e wo ⟨rfl, hbo⟩)
            go_ret
            exact ⟨rfl, HB6.out.trans (hbo.mono HB6.out.size)⟩
      · rw [rightB_f hr]
        clear hr
        go_wp2_with (go_at_call 11; refine (awake_any _).mono ?_; rintro e w3 ⟨rfl, hb3⟩)
        go_ret
        exact ⟨rfl, HB1.out.trans (hb3.mono HB1.out.size)⟩
    · have h3i : (300 : Int) < (ns : Int) := by omega
      go_wp2_with (go_at_call 11; refine (awake_any _).mono ?_; rintro e w3 ⟨rfl, hb3⟩)
      go_ret
      exact ⟨rfl, hb3⟩
end Go.Proofs.Ytmalcekbhnkfgaa
namespace Go.Proofs.Ytmalcekbhnkfgaa
open Go.RowKit Go.Maps
set_option linter.unusedVariables false
set_option linter.unusedSimpArgs false

theorem empty_walk (A : Option Addr) (c : Nat) (l : List Pt) (AT : Option Addr) (ct : Nat) (tt : List Int) (AS : Option Addr) (cs : Nat) (ss : List Int) (W : World) (o : RdP W W.heap.size A l ∧ l.length ≤ c ∧ l.length ≤ maxLen)
    (o1 : RdN W AT tt ∧ (∀ x ∈ tt, (Lit.int .i64 x).wf = true) ∧ tt.length ≤ ct ∧ tt.length ≤ maxLen) (o2 : RdI W W.heap.size AS ss ∧ ss.length ≤ cs ∧ ss.length ≤ maxLen) :
    Calls Try.prog 9 #[.slice A l.length c, .slice AT tt.length ct, .slice AS ss.length cs] W fun e w' => e = .returned (.bool true) ∧ Below W.heap.size W w' :=
  sempty_small A l.length c AT tt.length ct AS ss.length cs l tt ss W rfl rfl rfl o.1 o1.1 o2.1 o1.2.1
end Go.Proofs.Ytmalcekbhnkfgaa
