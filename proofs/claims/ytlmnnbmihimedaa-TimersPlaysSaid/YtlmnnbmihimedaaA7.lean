/- The contract of pile.down. Conditions: as the theorem states them. -/
import Derived.Test.YtlmnnbmihimedaaA6
namespace Go.Proofs.Ytlmnnbmihimedaa
open Go.RowKit
set_option linter.unusedVariables false
set_option linter.unusedSimpArgs false

/-- The lesser child of a place, in a list: the one that a hole may take. -/
def kid (tm : Nat → Tm) (bs : List Nat) (k : Nat) : Nat := if 2 * k + 2 < bs.length ∧ cmpT (tm (bs.getD (2 * k + 2) 0)) (tm (bs.getD (2 * k + 1) 0)) < 0 then 2 * k + 2 else 2 * k + 1
/-- What is at a hole k sinks: the list, and the places. -/
def downL (tm : Nat → Tm) (x : Nat) : Nat → List Nat → Nat → List Nat
  | 0, bs, k => bs.set k x
  | f + 1, bs, k => if kid tm bs k < bs.length ∧ cmpT (tm (bs.getD (kid tm bs k) 0)) (tm x) < 0 then downL tm x f (bs.set k (bs.getD (kid tm bs k) 0)) (kid tm bs k) else bs.set k x
def downP (tm : Nat → Tm) (x : Nat) : Nat → List Nat → Nat → (Nat → Int) → (Nat → Int)
  | 0, bs, k, pl => plSet pl x k
  | f + 1, bs, k, pl => if kid tm bs k < bs.length ∧ cmpT (tm (bs.getD (kid tm bs k) 0)) (tm x) < 0 then downP tm x f (bs.set k (bs.getD (kid tm bs k) 0)) (kid tm bs k) (plSet pl (bs.getD (kid tm bs k) 0) k) else plSet pl x k
theorem Pile.lessOf {w : World} {q g c : Nat} {bs : List Nat} {tm : Nat → Tm} {pl : Nat → Int} (h : Pile w q g c bs tm pl) {x y : Nat} (hx : ItemAt w x (tm x) (pl x)) (hy : ItemAt w y (tm y) (pl y)) (u : Bool) (hu : decide (cmpT (tm x) (tm y) < 0) = u) :
    ∀ X : Ext w, Calls Try.prog 34 #[.pointer (some ⟨x, 0, none⟩), .pointer (some ⟨y, 0, none⟩)] X.val fun e w' => e = .returned (.bool u) ∧ Below X.val.heap.size X.val w' := by
  intro X
  subst hu
  exact less_any x y (tm x) (tm y) (pl x) (pl y) X.val (hx.below X.bl) (hy.below X.bl) _ rfl
theorem downL_go (tm : Nat → Tm) (x f : Nat) (bs : List Nat) (k m : Nat) (hm : kid tm bs k = m) (h : m < bs.length) (hc : cmpT (tm (bs.getD m 0)) (tm x) < 0) : downL tm x (f + 1) bs k = downL tm x f (bs.set k (bs.getD m 0)) m := by
  subst hm
  simp only [downL]
  rw [if_pos ⟨h, hc⟩]
theorem downP_go (tm : Nat → Tm) (x f : Nat) (bs : List Nat) (k m : Nat) (pl : Nat → Int) (hm : kid tm bs k = m) (h : m < bs.length) (hc : cmpT (tm (bs.getD m 0)) (tm x) < 0) : downP tm x (f + 1) bs k pl = downP tm x f (bs.set k (bs.getD m 0)) m (plSet pl (bs.getD m 0) k) := by
  subst hm
  simp only [downP]
  rw [if_pos ⟨h, hc⟩]
theorem downL_stop (tm : Nat → Tm) (x f : Nat) (bs : List Nat) (k m : Nat) (hm : kid tm bs k = m) (h : ¬ (m < bs.length ∧ cmpT (tm (bs.getD m 0)) (tm x) < 0)) : downL tm x f bs k = bs.set k x := by
  subst hm
  cases f with
  | zero => rfl
  | succ f => simp only [downL]; rw [if_neg h]
theorem downP_stop (tm : Nat → Tm) (x f : Nat) (bs : List Nat) (k m : Nat) (pl : Nat → Int) (hm : kid tm bs k = m) (h : ¬ (m < bs.length ∧ cmpT (tm (bs.getD m 0)) (tm x) < 0)) : downP tm x f bs k pl = plSet pl x k := by
  subst hm
  cases f with
  | zero => rfl
  | succ f => simp only [downP]; rw [if_neg h]
set_option maxRecDepth 100000 in
set_option maxHeartbeats 4000000 in
theorem down_any (q g c k : Nat) (bs : List Nat) (tm : Nat → Tm) (pl : Nat → Int) (w : World) (h : Pile w q g c bs tm pl) (hk : k < bs.length) (hn : bs.length ≤ 1000000) (S : Nat → Prop) (hS : S g) (hSb : ∀ b ∈ bs, S b) (bs' : List Nat) (pl' : Nat → Int) (hb : downL tm (bs.getD k 0) bs.length bs k = bs') (hp : downP tm (bs.getD k 0) bs.length bs k pl = pl') :
    Calls Try.prog 42 #[.pointer (some ⟨q, 0, none⟩), .int .i64 k] w fun e w' => e = .returned (.tuple #[]) ∧ Pile w' q g c bs' tm pl' ∧ Kp S w w' := by
  have H := Lib.hid h
  obtain ⟨⟨l0, l1, l2, ql, gl⟩, hc, hf, hit, hgq, hne⟩ := h
  have hck := hc k hk
  have hk0 : (0 : Int) ≤ (k : Int) := by omega
  have hk1 : (k : Int) < (bs.length : Int) := by omega
  obtain ⟨x, hx⟩ : ∃ x, bs.getD k 0 = x := ⟨_, rfl⟩
  have hxm : x ∈ bs := by
    rw [← hx, List.getD_eq_getElem?_getD, List.getElem?_eq_getElem hk]
    exact List.getElem_mem _
  rw [hx] at hb hp hck
  have HX := Lib.hid (hit x hxm)
  have hxne := hne x hxm
  have hSx := hSb x hxm
  have HB := Lib.hid hb
  have HP := Lib.hid hp
  have HSB := Lib.hid hSb
  clear hc hf hit hne hb hp hx hSb
  go_enter Try.func42, Try.ntmps42
  go_wp2_with (fail)
  go_loopw [1, 5] (fun vk vc wr => ∃ (j f : Nat) (cs : List Nat) (pc : Nat → Int), j < cs.length ∧ cs.length = bs.length ∧ cs.length ≤ j + f ∧ vk = .int .i64 j ∧ Pile wr q g c cs tm pc ∧ ItemAt wr x (tm x) (pc x) ∧ (∀ b ∈ cs, S b) ∧ downL tm x f cs j = bs' ∧ downP tm x f cs j pc = pl' ∧ Kp S w wr) (fun i _ _ => bs.length - (intOf i).toNat)
  case atStart => exact ⟨k, bs.length, bs, pl, hk, rfl, by omega, rfl, H.out, HX.out, HSB.out, HB.out, HP.out, Kp.refl _ _⟩
  case round =>
    obtain ⟨j, f, cs, pc, hj, hcl, hjf, rfl, hpi, hix, hcs, hup, hpp, hkp⟩ := hrel
    have hj0 : (0 : Int) ≤ (j : Int) := by omega
    have hj1 : (j : Int) < (bs.length : Int) := by omega
    have hpa := hpi.p
    rw [hcl] at hpa
    obtain ⟨m0, m1, m2, m3, m4⟩ := id hpa
    have HPA := Lib.hid hpa
    have HPI := Lib.hid hpi
    have HIX := Lib.hid hix
    have HCS := Lib.hid hcs
    have HUP := Lib.hid hup
    have HPP := Lib.hid hpp
    have HKP := Lib.hid hkp
    clear hpa hpi hix hcs hup hpp hkp H HX HB HP HSB
    obtain ⟨f, rfl⟩ : ∃ f', f = f' + 1 := ⟨f - 1, by omega⟩
    have ha0 : (0 : Int) ≤ 2 * (j : Int) + 1 := by omega
    have hb0 : (0 : Int) ≤ 2 * (j : Int) + 1 + 1 := by omega
    have hkd : kid tm cs j = if 2 * j + 1 + 1 < cs.length ∧ cmpT (tm (cs.getD (2 * j + 1 + 1) 0)) (tm (cs.getD (2 * j + 1) 0)) < 0 then 2 * j + 1 + 1 else 2 * j + 1 := rfl
    by_cases hz : 2 * j + 1 + 1 < cs.length
    · have hzl3 : 2 * (j : Int) + 1 + 1 < (bs.length : Int) := by omega
      have HGb : Hid (decide ((bs.length : Int) ≤ 2 * (j : Int) + 1 + 1) = false) := Lib.hid (decide_eq_false (by omega))
      have HGa : Hid (decide ((bs.length : Int) ≤ 2 * (j : Int) + 1) = false) := Lib.hid (decide_eq_false (by omega))
      have hal : 2 * (j : Int) + 1 < (bs.length : Int) := by omega
      have hal' : 2 * j + 1 < cs.length := by omega
      have hbm : cs.getD (2 * j + 1 + 1) 0 ∈ cs := by
        rw [List.getD_eq_getElem?_getD, List.getElem?_eq_getElem hz]
        exact List.getElem_mem _
      have ham : cs.getD (2 * j + 1) 0 ∈ cs := by
        rw [List.getD_eq_getElem?_getD, List.getElem?_eq_getElem hal']
        exact List.getElem_mem _
      by_cases hr : cmpT (tm (cs.getD (2 * j + 1 + 1) 0)) (tm (cs.getD (2 * j + 1) 0)) < 0
      · have hkid : kid tm cs j = 2 * j + 1 + 1 := by rw [hkd, if_pos ⟨hz, hr⟩]
        clear hkd
        have HL := Lib.hid (HPI.out.lessOf (HPI.out.item _ hbm) (HPI.out.item _ ham) true (decide_eq_true hr))
        have hca := HPI.out.cell _ hal'
        have hcb := HPI.out.cell _ hz
        have hsink := downL_go tm x f cs j (2 * j + 1 + 1) hkid (by omega)
        have hsinkP := downP_go tm x f cs j (2 * j + 1 + 1) pc hkid (by omega)
        have hstop := downL_stop tm x (f + 1) cs j (2 * j + 1 + 1) hkid
        have hstopP := downP_stop tm x (f + 1) cs j (2 * j + 1 + 1) pc hkid
        rw [HUP.out] at hsink hstop
        rw [HPP.out] at hsinkP hstopP
        have hyi := HPI.out.item _ hbm
        have hyn := HPI.out.ne _ hbm
        have hyS := HCS.out _ hbm
        clear hr hkid
        generalize cs.getD (2 * j + 1) 0 = ya at *
        generalize cs.getD (2 * j + 1 + 1) 0 = yb at *
        have HYI := Lib.hid hyi
        have HLx : Hid (∀ u, decide (cmpT (tm yb) (tm x) < 0) = u → ∀ X : Ext wr, Calls Try.prog 34 #[.pointer (some ⟨yb, 0, none⟩), .pointer (some ⟨x, 0, none⟩)] X.val fun e w' => e = .returned (.bool u) ∧ Below X.val.heap.size X.val w') := Lib.hid fun u hu => HPI.out.lessOf hyi HIX.out u hu
        have e0 := ext_cell m0
        have e1 := ext_cell m1
        have e2 := ext_cell hca
        have e3 := ext_cell hcb
        clear hyi ham hbm
        by_cases hy : cmpT (tm yb) (tm x) < 0
        · have HS1 := Lib.hid (hsink hy)
          have HS2 := Lib.hid (hsinkP hy)
          have HM := Lib.hid (HLx.out true (decide_eq_true hy))
          clear hsink hsinkP hstop hstopP hy HLx
          go_wp2_with (fail)
          refine wp_region_ext (by kernel_rfl) (by kernel_rfl) ?_
          repeat (go_big_quiet_step ((go_at_call 34; exact ext_calls (HL.out _))))
          refine wpQuiet_nil ?_
          rintro w2 ⟨⟨_, hb2⟩, rfl⟩
          have hsz2 := hb2.size
          have n0 : w2.cell? ⟨q, 0, none⟩ = some (.slice (some ⟨g, 0, none⟩) bs.length c) := (hb2.cell (p := ⟨q, 0, none⟩) m3).trans m0
          have n1 : w2.cell? ⟨q, 1, none⟩ = some (.func (.func 34) #[] #[]) := (hb2.cell (p := ⟨q, 1, none⟩) m3).trans m1
          have n2 : w2.cell? ⟨g, 2 * j + 1 + 1, none⟩ = some (.pointer (some ⟨yb, 0, none⟩)) := (hb2.cell (p := ⟨g, 2 * j + 1 + 1, none⟩) m4).trans hcb
          have q0 : q < w2.heap.size := by omega
          have g0 : g < w2.heap.size := by omega
          have f0 := ext_cell n0
          have f1 := ext_cell n1
          have f2 := ext_cell n2
          have HN : Hid (∀ X : Ext w2, Calls Try.prog 34 #[.pointer (some ⟨yb, 0, none⟩), .pointer (some ⟨x, 0, none⟩)] X.val fun e w' => e = .returned (.bool true) ∧ Below X.val.heap.size X.val w') := Lib.hid fun X => HM.out ⟨X.val, hb2.trans (X.bl.mono hb2.size)⟩
          clear e0 e1 e2 e3
          go_wp2_with (fail)
          refine wp_region_ext (by kernel_rfl) (by kernel_rfl) ?_
          repeat (first | rw [HGb.out] | go_big_quiet_step ((go_at_call 34; exact ext_calls (HN.out _))))
          refine wpQuiet_nil ?_
          rintro w3 ⟨⟨_, hb3⟩, rfl⟩
          have hb4 : Below wr.heap.size wr w3 := hb2.trans (hb3.mono hb2.size)
          have hsz3 := hb4.size
          have q3 : q < w3.heap.size := by omega
          have g3 : g < w3.heap.size := by omega
          have hW := HPI.out.below hb4
          have o0 : w3.cell? ⟨q, 0, none⟩ = some (.slice (some ⟨g, 0, none⟩) bs.length c) := (hb4.cell (p := ⟨q, 0, none⟩) m3).trans m0
          have o2 : w3.cell? ⟨g, 2 * j + 1 + 1, none⟩ = some (.pointer (some ⟨yb, 0, none⟩)) := (hb4.cell (p := ⟨g, 2 * j + 1 + 1, none⟩) m4).trans hcb
          go_wp2_with (fail)
          refine (putp_any q g bs.length c yb j cs tm pc _ hW hcl hj (HYI.out.below hb4) hyn.1 hyn.2 hn).mono ?_
          rintro e w1 ⟨rfl, rfl⟩
          go_wp2_with (fail)
          go_roundw
          case rel =>
            refine ⟨2 * j + 1 + 1, f, cs.set j yb, plSet pc yb j, by rw [List.length_set]; omega, by rw [List.length_set]; exact hcl, by rw [List.length_set]; omega, by push_cast; rfl, hW.put j yb hj (HYI.out.below hb4) hyn.1 hyn.2, (HIX.out.below hb4).putW hxne.1, ?_, HS1.out.symm, HS2.out.symm, ?_⟩
            · intro i hi
              rcases List.mem_or_eq_of_mem_set hi with hi | rfl
              · exact HCS.out i hi
              · exact hyS
            · exact ((HKP.out.trans (Kp.ofBelow hb4)).setCell (p := ⟨g, j, none⟩) hS _).setCell (p := ⟨yb, 3, none⟩) hyS _
          case measure => simp [intOf]; omega
        · have HS1 := Lib.hid (hstop (fun h => hy h.2))
          have HS2 := Lib.hid (hstopP (fun h => hy h.2))
          have HM := Lib.hid (HLx.out false (decide_eq_false hy))
          clear hsink hsinkP hstop hstopP hy HLx
          go_wp2_with (fail)
          refine wp_region_ext (by kernel_rfl) (by kernel_rfl) ?_
          repeat (go_big_quiet_step ((go_at_call 34; exact ext_calls (HL.out _))))
          refine wpQuiet_nil ?_
          rintro w2 ⟨⟨_, hb2⟩, rfl⟩
          have hsz2 := hb2.size
          have n0 : w2.cell? ⟨q, 0, none⟩ = some (.slice (some ⟨g, 0, none⟩) bs.length c) := (hb2.cell (p := ⟨q, 0, none⟩) m3).trans m0
          have n1 : w2.cell? ⟨q, 1, none⟩ = some (.func (.func 34) #[] #[]) := (hb2.cell (p := ⟨q, 1, none⟩) m3).trans m1
          have n2 : w2.cell? ⟨g, 2 * j + 1 + 1, none⟩ = some (.pointer (some ⟨yb, 0, none⟩)) := (hb2.cell (p := ⟨g, 2 * j + 1 + 1, none⟩) m4).trans hcb
          have q0 : q < w2.heap.size := by omega
          have g0 : g < w2.heap.size := by omega
          have f0 := ext_cell n0
          have f1 := ext_cell n1
          have f2 := ext_cell n2
          have HN : Hid (∀ X : Ext w2, Calls Try.prog 34 #[.pointer (some ⟨yb, 0, none⟩), .pointer (some ⟨x, 0, none⟩)] X.val fun e w' => e = .returned (.bool false) ∧ Below X.val.heap.size X.val w') := Lib.hid fun X => HM.out ⟨X.val, hb2.trans (X.bl.mono hb2.size)⟩
          clear e0 e1 e2 e3
          go_wp2_with (fail)
          refine wp_region_ext (by kernel_rfl) (by kernel_rfl) ?_
          repeat (first | rw [HGb.out] | go_big_quiet_step ((go_at_call 34; exact ext_calls (HN.out _))))
          refine wpQuiet_nil ?_
          rintro w3 ⟨⟨_, hb3⟩, rfl⟩
          have hb4 : Below wr.heap.size wr w3 := hb2.trans (hb3.mono hb2.size)
          have hW := HPI.out.below hb4
          go_wp2_with (fail)
          refine (putp_any q g bs.length c x j cs tm pc _ hW hcl hj (HIX.out.below hb4) hxne.1 hxne.2 hn).mono ?_
          rintro e w1 ⟨rfl, rfl⟩
          go_wp2
          go_end0
          refine ⟨rfl, ?_, ?_⟩
          · rw [HS1.out, HS2.out]
            exact hW.put j x hj (HIX.out.below hb4) hxne.1 hxne.2
          · exact ((HKP.out.trans (Kp.ofBelow hb4)).setCell (p := ⟨g, j, none⟩) hS _).setCell (p := ⟨x, 3, none⟩) hSx _
      · have hkid : kid tm cs j = 2 * j + 1 := by rw [hkd, if_neg (fun h => hr h.2)]
        clear hkd
        have HL := Lib.hid (HPI.out.lessOf (HPI.out.item _ hbm) (HPI.out.item _ ham) false (decide_eq_false hr))
        have hca := HPI.out.cell _ hal'
        have hcb := HPI.out.cell _ hz
        have hsink := downL_go tm x f cs j (2 * j + 1) hkid (by omega)
        have hsinkP := downP_go tm x f cs j (2 * j + 1) pc hkid (by omega)
        have hstop := downL_stop tm x (f + 1) cs j (2 * j + 1) hkid
        have hstopP := downP_stop tm x (f + 1) cs j (2 * j + 1) pc hkid
        rw [HUP.out] at hsink hstop
        rw [HPP.out] at hsinkP hstopP
        have hyi := HPI.out.item _ ham
        have hyn := HPI.out.ne _ ham
        have hyS := HCS.out _ ham
        clear hr hkid
        generalize cs.getD (2 * j + 1) 0 = ya at *
        generalize cs.getD (2 * j + 1 + 1) 0 = yb at *
        have HYI := Lib.hid hyi
        have HLx : Hid (∀ u, decide (cmpT (tm ya) (tm x) < 0) = u → ∀ X : Ext wr, Calls Try.prog 34 #[.pointer (some ⟨ya, 0, none⟩), .pointer (some ⟨x, 0, none⟩)] X.val fun e w' => e = .returned (.bool u) ∧ Below X.val.heap.size X.val w') := Lib.hid fun u hu => HPI.out.lessOf hyi HIX.out u hu
        have e0 := ext_cell m0
        have e1 := ext_cell m1
        have e2 := ext_cell hca
        have e3 := ext_cell hcb
        clear hyi ham hbm
        by_cases hy : cmpT (tm ya) (tm x) < 0
        · have HS1 := Lib.hid (hsink hy)
          have HS2 := Lib.hid (hsinkP hy)
          have HM := Lib.hid (HLx.out true (decide_eq_true hy))
          clear hsink hsinkP hstop hstopP hy HLx
          go_wp2_with (fail)
          refine wp_region_ext (by kernel_rfl) (by kernel_rfl) ?_
          repeat (go_big_quiet_step ((go_at_call 34; exact ext_calls (HL.out _))))
          refine wpQuiet_nil ?_
          rintro w2 ⟨⟨_, hb2⟩, rfl⟩
          have hsz2 := hb2.size
          have n0 : w2.cell? ⟨q, 0, none⟩ = some (.slice (some ⟨g, 0, none⟩) bs.length c) := (hb2.cell (p := ⟨q, 0, none⟩) m3).trans m0
          have n1 : w2.cell? ⟨q, 1, none⟩ = some (.func (.func 34) #[] #[]) := (hb2.cell (p := ⟨q, 1, none⟩) m3).trans m1
          have n2 : w2.cell? ⟨g, 2 * j + 1, none⟩ = some (.pointer (some ⟨ya, 0, none⟩)) := (hb2.cell (p := ⟨g, 2 * j + 1, none⟩) m4).trans hca
          have q0 : q < w2.heap.size := by omega
          have g0 : g < w2.heap.size := by omega
          have f0 := ext_cell n0
          have f1 := ext_cell n1
          have f2 := ext_cell n2
          have HN : Hid (∀ X : Ext w2, Calls Try.prog 34 #[.pointer (some ⟨ya, 0, none⟩), .pointer (some ⟨x, 0, none⟩)] X.val fun e w' => e = .returned (.bool true) ∧ Below X.val.heap.size X.val w') := Lib.hid fun X => HM.out ⟨X.val, hb2.trans (X.bl.mono hb2.size)⟩
          clear e0 e1 e2 e3
          go_wp2_with (fail)
          refine wp_region_ext (by kernel_rfl) (by kernel_rfl) ?_
          repeat (first | rw [HGa.out] | go_big_quiet_step ((go_at_call 34; exact ext_calls (HN.out _))))
          refine wpQuiet_nil ?_
          rintro w3 ⟨⟨_, hb3⟩, rfl⟩
          have hb4 : Below wr.heap.size wr w3 := hb2.trans (hb3.mono hb2.size)
          have hsz3 := hb4.size
          have q3 : q < w3.heap.size := by omega
          have g3 : g < w3.heap.size := by omega
          have hW := HPI.out.below hb4
          have o0 : w3.cell? ⟨q, 0, none⟩ = some (.slice (some ⟨g, 0, none⟩) bs.length c) := (hb4.cell (p := ⟨q, 0, none⟩) m3).trans m0
          have o2 : w3.cell? ⟨g, 2 * j + 1, none⟩ = some (.pointer (some ⟨ya, 0, none⟩)) := (hb4.cell (p := ⟨g, 2 * j + 1, none⟩) m4).trans hca
          go_wp2_with (fail)
          refine (putp_any q g bs.length c ya j cs tm pc _ hW hcl hj (HYI.out.below hb4) hyn.1 hyn.2 hn).mono ?_
          rintro e w1 ⟨rfl, rfl⟩
          go_wp2_with (fail)
          go_roundw
          case rel =>
            refine ⟨2 * j + 1, f, cs.set j ya, plSet pc ya j, by rw [List.length_set]; omega, by rw [List.length_set]; exact hcl, by rw [List.length_set]; omega, by push_cast; rfl, hW.put j ya hj (HYI.out.below hb4) hyn.1 hyn.2, (HIX.out.below hb4).putW hxne.1, ?_, HS1.out.symm, HS2.out.symm, ?_⟩
            · intro i hi
              rcases List.mem_or_eq_of_mem_set hi with hi | rfl
              · exact HCS.out i hi
              · exact hyS
            · exact ((HKP.out.trans (Kp.ofBelow hb4)).setCell (p := ⟨g, j, none⟩) hS _).setCell (p := ⟨ya, 3, none⟩) hyS _
          case measure => simp [intOf]; omega
        · have HS1 := Lib.hid (hstop (fun h => hy h.2))
          have HS2 := Lib.hid (hstopP (fun h => hy h.2))
          have HM := Lib.hid (HLx.out false (decide_eq_false hy))
          clear hsink hsinkP hstop hstopP hy HLx
          go_wp2_with (fail)
          refine wp_region_ext (by kernel_rfl) (by kernel_rfl) ?_
          repeat (go_big_quiet_step ((go_at_call 34; exact ext_calls (HL.out _))))
          refine wpQuiet_nil ?_
          rintro w2 ⟨⟨_, hb2⟩, rfl⟩
          have hsz2 := hb2.size
          have n0 : w2.cell? ⟨q, 0, none⟩ = some (.slice (some ⟨g, 0, none⟩) bs.length c) := (hb2.cell (p := ⟨q, 0, none⟩) m3).trans m0
          have n1 : w2.cell? ⟨q, 1, none⟩ = some (.func (.func 34) #[] #[]) := (hb2.cell (p := ⟨q, 1, none⟩) m3).trans m1
          have n2 : w2.cell? ⟨g, 2 * j + 1, none⟩ = some (.pointer (some ⟨ya, 0, none⟩)) := (hb2.cell (p := ⟨g, 2 * j + 1, none⟩) m4).trans hca
          have q0 : q < w2.heap.size := by omega
          have g0 : g < w2.heap.size := by omega
          have f0 := ext_cell n0
          have f1 := ext_cell n1
          have f2 := ext_cell n2
          have HN : Hid (∀ X : Ext w2, Calls Try.prog 34 #[.pointer (some ⟨ya, 0, none⟩), .pointer (some ⟨x, 0, none⟩)] X.val fun e w' => e = .returned (.bool false) ∧ Below X.val.heap.size X.val w') := Lib.hid fun X => HM.out ⟨X.val, hb2.trans (X.bl.mono hb2.size)⟩
          clear e0 e1 e2 e3
          go_wp2_with (fail)
          refine wp_region_ext (by kernel_rfl) (by kernel_rfl) ?_
          repeat (first | rw [HGa.out] | go_big_quiet_step ((go_at_call 34; exact ext_calls (HN.out _))))
          refine wpQuiet_nil ?_
          rintro w3 ⟨⟨_, hb3⟩, rfl⟩
          have hb4 : Below wr.heap.size wr w3 := hb2.trans (hb3.mono hb2.size)
          have hW := HPI.out.below hb4
          go_wp2_with (fail)
          refine (putp_any q g bs.length c x j cs tm pc _ hW hcl hj (HIX.out.below hb4) hxne.1 hxne.2 hn).mono ?_
          rintro e w1 ⟨rfl, rfl⟩
          go_wp2
          go_end0
          refine ⟨rfl, ?_, ?_⟩
          · rw [HS1.out, HS2.out]
            exact hW.put j x hj (HIX.out.below hb4) hxne.1 hxne.2
          · exact ((HKP.out.trans (Kp.ofBelow hb4)).setCell (p := ⟨g, j, none⟩) hS _).setCell (p := ⟨x, 3, none⟩) hSx _
    · have hkid : kid tm cs j = 2 * j + 1 := by rw [hkd, if_neg (fun h => hz h.1)]
      clear hkd
      have HGz : Hid (decide (2 * (j : Int) + 1 + 1 < (bs.length : Int)) = false) := Lib.hid (decide_eq_false (by omega))
      have hub : IntKind.i64.wrap (2 * (j : Int) + 1 + 1) = 2 * (j : Int) + 1 + 1 := by rw [IntKind.wrap_i64]; omega
      by_cases hal' : 2 * j + 1 < cs.length
      · have hal : 2 * (j : Int) + 1 < (bs.length : Int) := by omega
        have HGa : Hid (decide ((bs.length : Int) ≤ 2 * (j : Int) + 1) = false) := Lib.hid (decide_eq_false (by omega))
        have ham : cs.getD (2 * j + 1) 0 ∈ cs := by
          rw [List.getD_eq_getElem?_getD, List.getElem?_eq_getElem hal']
          exact List.getElem_mem _
        have hca := HPI.out.cell _ hal'
        have hsink := downL_go tm x f cs j (2 * j + 1) hkid (by omega)
        have hsinkP := downP_go tm x f cs j (2 * j + 1) pc hkid (by omega)
        have hstop := downL_stop tm x (f + 1) cs j (2 * j + 1) hkid
        have hstopP := downP_stop tm x (f + 1) cs j (2 * j + 1) pc hkid
        rw [HUP.out] at hsink hstop
        rw [HPP.out] at hsinkP hstopP
        have hyi := HPI.out.item _ ham
        have hyn := HPI.out.ne _ ham
        have hyS := HCS.out _ ham
        clear hkid
        generalize cs.getD (2 * j + 1) 0 = ya at *
        have HYI := Lib.hid hyi
        have e0 := ext_cell m0
        have HLx : Hid (∀ u, decide (cmpT (tm ya) (tm x) < 0) = u → ∀ X : Ext wr, Calls Try.prog 34 #[.pointer (some ⟨ya, 0, none⟩), .pointer (some ⟨x, 0, none⟩)] X.val fun e w' => e = .returned (.bool u) ∧ Below X.val.heap.size X.val w') := Lib.hid fun u hu => HPI.out.lessOf hyi HIX.out u hu
        clear hyi ham
        by_cases hy : cmpT (tm ya) (tm x) < 0
        · have HS1 := Lib.hid (hsink hy)
          have HS2 := Lib.hid (hsinkP hy)
          have HM := Lib.hid (HLx.out true (decide_eq_true hy))
          clear hsink hsinkP hstop hstopP hy HLx
          go_wp2_with (fail)
          refine wp_region_ext (by kernel_rfl) (by kernel_rfl) ?_
          repeat (first | rw [HGz.out] | go_big_quiet_step (fail))
          refine wpQuiet_nil ?_
          rintro w2 ⟨⟨_, hb2⟩, rfl⟩
          have hsz2 := hb2.size
          have n0 : w2.cell? ⟨q, 0, none⟩ = some (.slice (some ⟨g, 0, none⟩) bs.length c) := (hb2.cell (p := ⟨q, 0, none⟩) m3).trans m0
          have n1 : w2.cell? ⟨q, 1, none⟩ = some (.func (.func 34) #[] #[]) := (hb2.cell (p := ⟨q, 1, none⟩) m3).trans m1
          have n2 : w2.cell? ⟨g, 2 * j + 1, none⟩ = some (.pointer (some ⟨ya, 0, none⟩)) := (hb2.cell (p := ⟨g, 2 * j + 1, none⟩) m4).trans hca
          have q0 : q < w2.heap.size := by omega
          have g0 : g < w2.heap.size := by omega
          have f0 := ext_cell n0
          have f1 := ext_cell n1
          have f2 := ext_cell n2
          have HN : Hid (∀ X : Ext w2, Calls Try.prog 34 #[.pointer (some ⟨ya, 0, none⟩), .pointer (some ⟨x, 0, none⟩)] X.val fun e w' => e = .returned (.bool true) ∧ Below X.val.heap.size X.val w') := Lib.hid fun X => HM.out ⟨X.val, hb2.trans (X.bl.mono hb2.size)⟩
          go_wp2_with (fail)
          refine wp_region_ext (by kernel_rfl) (by kernel_rfl) ?_
          repeat (first | rw [HGa.out] | go_big_quiet_step ((go_at_call 34; exact ext_calls (HN.out _))))
          refine wpQuiet_nil ?_
          rintro w3 ⟨⟨_, hb3⟩, rfl⟩
          have hb4 : Below wr.heap.size wr w3 := hb2.trans (hb3.mono hb2.size)
          have hsz3 := hb4.size
          have q3 : q < w3.heap.size := by omega
          have g3 : g < w3.heap.size := by omega
          have hW := HPI.out.below hb4
          have o0 : w3.cell? ⟨q, 0, none⟩ = some (.slice (some ⟨g, 0, none⟩) bs.length c) := (hb4.cell (p := ⟨q, 0, none⟩) m3).trans m0
          have o2 : w3.cell? ⟨g, 2 * j + 1, none⟩ = some (.pointer (some ⟨ya, 0, none⟩)) := (hb4.cell (p := ⟨g, 2 * j + 1, none⟩) m4).trans hca
          go_wp2_with (fail)
          refine (putp_any q g bs.length c ya j cs tm pc _ hW hcl hj (HYI.out.below hb4) hyn.1 hyn.2 hn).mono ?_
          rintro e w1 ⟨rfl, rfl⟩
          go_wp2_with (fail)
          go_roundw
          case rel =>
            refine ⟨2 * j + 1, f, cs.set j ya, plSet pc ya j, by rw [List.length_set]; omega, by rw [List.length_set]; exact hcl, by rw [List.length_set]; omega, by push_cast; rfl, hW.put j ya hj (HYI.out.below hb4) hyn.1 hyn.2, (HIX.out.below hb4).putW hxne.1, ?_, HS1.out.symm, HS2.out.symm, ?_⟩
            · intro i hi
              rcases List.mem_or_eq_of_mem_set hi with hi | rfl
              · exact HCS.out i hi
              · exact hyS
            · exact ((HKP.out.trans (Kp.ofBelow hb4)).setCell (p := ⟨g, j, none⟩) hS _).setCell (p := ⟨ya, 3, none⟩) hyS _
          case measure => simp [intOf]; omega
        · have HS1 := Lib.hid (hstop (fun h => hy h.2))
          have HS2 := Lib.hid (hstopP (fun h => hy h.2))
          have HM := Lib.hid (HLx.out false (decide_eq_false hy))
          clear hsink hsinkP hstop hstopP hy HLx
          go_wp2_with (fail)
          refine wp_region_ext (by kernel_rfl) (by kernel_rfl) ?_
          repeat (first | rw [HGz.out] | go_big_quiet_step (fail))
          refine wpQuiet_nil ?_
          rintro w2 ⟨⟨_, hb2⟩, rfl⟩
          have hsz2 := hb2.size
          have n0 : w2.cell? ⟨q, 0, none⟩ = some (.slice (some ⟨g, 0, none⟩) bs.length c) := (hb2.cell (p := ⟨q, 0, none⟩) m3).trans m0
          have n1 : w2.cell? ⟨q, 1, none⟩ = some (.func (.func 34) #[] #[]) := (hb2.cell (p := ⟨q, 1, none⟩) m3).trans m1
          have n2 : w2.cell? ⟨g, 2 * j + 1, none⟩ = some (.pointer (some ⟨ya, 0, none⟩)) := (hb2.cell (p := ⟨g, 2 * j + 1, none⟩) m4).trans hca
          have q0 : q < w2.heap.size := by omega
          have g0 : g < w2.heap.size := by omega
          have f0 := ext_cell n0
          have f1 := ext_cell n1
          have f2 := ext_cell n2
          have HN : Hid (∀ X : Ext w2, Calls Try.prog 34 #[.pointer (some ⟨ya, 0, none⟩), .pointer (some ⟨x, 0, none⟩)] X.val fun e w' => e = .returned (.bool false) ∧ Below X.val.heap.size X.val w') := Lib.hid fun X => HM.out ⟨X.val, hb2.trans (X.bl.mono hb2.size)⟩
          go_wp2_with (fail)
          refine wp_region_ext (by kernel_rfl) (by kernel_rfl) ?_
          repeat (first | rw [HGa.out] | go_big_quiet_step ((go_at_call 34; exact ext_calls (HN.out _))))
          refine wpQuiet_nil ?_
          rintro w3 ⟨⟨_, hb3⟩, rfl⟩
          have hb4 : Below wr.heap.size wr w3 := hb2.trans (hb3.mono hb2.size)
          have hW := HPI.out.below hb4
          go_wp2_with (fail)
          refine (putp_any q g bs.length c x j cs tm pc _ hW hcl hj (HIX.out.below hb4) hxne.1 hxne.2 hn).mono ?_
          rintro e w1 ⟨rfl, rfl⟩
          go_wp2
          go_end0
          refine ⟨rfl, ?_, ?_⟩
          · rw [HS1.out, HS2.out]
            exact hW.put j x hj (HIX.out.below hb4) hxne.1 hxne.2
          · exact ((HKP.out.trans (Kp.ofBelow hb4)).setCell (p := ⟨g, j, none⟩) hS _).setCell (p := ⟨x, 3, none⟩) hSx _
      · have HGa : Hid (decide ((bs.length : Int) ≤ 2 * (j : Int) + 1) = true) := Lib.hid (decide_eq_true (by omega))
        have HS1 := Lib.hid (downL_stop tm x (f + 1) cs j (2 * j + 1) hkid (fun h => hal' h.1))
        have HS2 := Lib.hid (downP_stop tm x (f + 1) cs j (2 * j + 1) pc hkid (fun h => hal' h.1))
        clear hkid
        have e0 := ext_cell m0
        go_wp2_with (fail)
        refine wp_region_ext (by kernel_rfl) (by kernel_rfl) ?_
        repeat (first | rw [HGz.out] | go_big_quiet_step (fail))
        refine wpQuiet_nil ?_
        rintro w2 ⟨⟨_, hb2⟩, rfl⟩
        have n0 : w2.cell? ⟨q, 0, none⟩ = some (.slice (some ⟨g, 0, none⟩) bs.length c) := (hb2.cell (p := ⟨q, 0, none⟩) m3).trans m0
        have hsz2 := hb2.size
        have q0 : q < w2.heap.size := by omega
        go_wp2_with (fail)
        have f0 := ext_cell n0
        refine wp_region_ext (by kernel_rfl) (by kernel_rfl) ?_
        repeat (first | rw [HGa.out] | go_big_quiet_step (fail))
        refine wpQuiet_nil ?_
        rintro w3 ⟨⟨_, hb3⟩, rfl⟩
        have hb4 : Below wr.heap.size wr w3 := hb2.trans (hb3.mono hb2.size)
        have hW := HPI.out.below hb4
        go_wp2_with (fail)
        refine (putp_any q g bs.length c x j cs tm pc _ hW hcl hj (HIX.out.below hb4) hxne.1 hxne.2 hn).mono ?_
        rintro e w1 ⟨rfl, rfl⟩
        go_wp2
        go_end0
        refine ⟨rfl, ?_, ?_⟩
        · rw [← HUP.out, ← HPP.out, HS1.out, HS2.out]
          exact hW.put j x hj (HIX.out.below hb4) hxne.1 hxne.2
        · exact ((HKP.out.trans (Kp.ofBelow hb4)).setCell (p := ⟨g, j, none⟩) hS _).setCell (p := ⟨x, 3, none⟩) hSx _
end Go.Proofs.Ytlmnnbmihimedaa
