/- The contract of pile.up. Conditions: as the theorem states them. -/
import Derived.Test.YtlmnnbmihimedaaA5
namespace Go.Proofs.Ytlmnnbmihimedaa
open Go.RowKit
set_option linter.unusedVariables false
set_option linter.unusedSimpArgs false

/-- What is at a hole k rises: the list, and the places. -/
def upL (tm : Nat → Tm) (x : Nat) : Nat → List Nat → Nat → List Nat
  | 0, bs, k => bs.set k x
  | f + 1, bs, k => if 0 < k ∧ cmpT (tm x) (tm (bs.getD ((k - 1) / 2) 0)) < 0 then upL tm x f (bs.set k (bs.getD ((k - 1) / 2) 0)) ((k - 1) / 2) else bs.set k x
def upP (tm : Nat → Tm) (x : Nat) : Nat → List Nat → Nat → (Nat → Int) → (Nat → Int)
  | 0, bs, k, pl => plSet pl x k
  | f + 1, bs, k, pl => if 0 < k ∧ cmpT (tm x) (tm (bs.getD ((k - 1) / 2) 0)) < 0 then upP tm x f (bs.set k (bs.getD ((k - 1) / 2) 0)) ((k - 1) / 2) (plSet pl (bs.getD ((k - 1) / 2) 0) k) else plSet pl x k
theorem upL_stop (tm : Nat → Tm) (x f : Nat) (bs : List Nat) (k : Nat) (h : ¬ (0 < k ∧ cmpT (tm x) (tm (bs.getD ((k - 1) / 2) 0)) < 0)) : upL tm x f bs k = bs.set k x := by
  cases f with
  | zero => rfl
  | succ f => simp only [upL]; rw [if_neg h]
theorem upP_stop (tm : Nat → Tm) (x f : Nat) (bs : List Nat) (k : Nat) (pl : Nat → Int) (h : ¬ (0 < k ∧ cmpT (tm x) (tm (bs.getD ((k - 1) / 2) 0)) < 0)) : upP tm x f bs k pl = plSet pl x k := by
  cases f with
  | zero => rfl
  | succ f => simp only [upP]; rw [if_neg h]
theorem ItemAt.below {w w' : World} {b : Nat} {x : Tm} {pl : Int} (h : ItemAt w b x pl) (hb : Below w.heap.size w w') : ItemAt w' b x pl := by
  obtain ⟨c0, c1, c2, c3, fz, lt⟩ := h
  have := hb.size
  exact ⟨(hb.cell (p := ⟨b, 0, none⟩) lt).trans c0, (hb.cell (p := ⟨b, 1, none⟩) lt).trans c1, (hb.cell (p := ⟨b, 2, none⟩) lt).trans c2, (hb.cell (p := ⟨b, 3, none⟩) lt).trans c3, (hb.frozen (p := ⟨b, 3, none⟩) lt).trans fz, by omega⟩
theorem ItemAt.putW {w : World} {b g k x : Nat} {tm : Nat → Tm} {pl : Nat → Int} (hi : ItemAt w b (tm b) (pl b)) (hb : b ≠ g) : ItemAt (putW w g k x) b (tm b) (plSet pl x k b) := by
  have h1 := hi.far (p := ⟨g, k, none⟩) (fun e => hb e.symm) (.pointer (some ⟨x, 0, none⟩))
  by_cases hbx : b = x
  · subst hbx
    obtain ⟨c0, c1, c2, c3, fz, lt⟩ := h1
    refine ⟨(sc_other (by intro e; cases e)).trans c0, (sc_other (by intro e; cases e)).trans c1, (sc_other (by intro e; cases e)).trans c2, ?_, ?_, by simpa [Ytlmnnbmihimedaa.putW, World.setCell] using lt⟩
    · have := sc_same (v := .int .i64 (k : Int)) c3
      simpa [Ytlmnnbmihimedaa.putW, plSet] using this
    · simpa [Ytlmnnbmihimedaa.putW] using fz
  · have := h1.far (p := ⟨x, 3, none⟩) (fun e => hbx e.symm) (.int .i64 (k : Int))
    simpa [Ytlmnnbmihimedaa.putW, plSet, hbx] using this
theorem putp_any (q g n c x k : Nat) (cs : List Nat) (tm : Nat → Tm) (pc : Nat → Int) (w : World) (h : Pile w q g c cs tm pc) (hn : cs.length = n) (hk : k < cs.length) (hx : ItemAt w x (tm x) (pc x)) (hxg : x ≠ g) (hxq : x ≠ q) (hle : n ≤ 1000000) :
    Calls Try.prog 40 #[.pointer (some ⟨q, 0, none⟩), .pointer (some ⟨x, 0, none⟩), .int .i64 k] w fun e w' => e = .returned (.tuple #[]) ∧ w' = putW w g k x := by
  subst hn
  exact put_any q g cs.length c x k (tm x) (pc x) _ w h.p hk hx (h.cell k hk) (h.fz k hk) (fun e => hxg e.symm) h.gq hle
set_option maxRecDepth 100000 in
set_option maxHeartbeats 2000000 in
theorem up_any (q g c k : Nat) (bs : List Nat) (tm : Nat → Tm) (pl : Nat → Int) (w : World) (h : Pile w q g c bs tm pl) (hk : k < bs.length) (hn : bs.length ≤ 1000000) (S : Nat → Prop) (hS : S g) (hSb : ∀ b ∈ bs, S b) (bs' : List Nat) (pl' : Nat → Int) (hb : upL tm (bs.getD k 0) k bs k = bs') (hp : upP tm (bs.getD k 0) k bs k pl = pl') :
    Calls Try.prog 41 #[.pointer (some ⟨q, 0, none⟩), .int .i64 k] w fun e w' => e = .returned (.tuple #[]) ∧ Pile w' q g c bs' tm pl' ∧ Kp S w w' := by
  have H := Lib.hid h
  obtain ⟨⟨l0, l1, l2, ql, gl⟩, hc, hf, hit, hgq, hne⟩ := h
  have hck := hc k hk
  have hk0 : (0 : Int) ≤ (k : Int) := by omega
  have hk1 : (k : Int) < (bs.length : Int) := by omega
  obtain ⟨x, hx⟩ : ∃ x, bs.getD k 0 = x := ⟨_, rfl⟩
  have hxm : x ∈ bs := by
    rw [← hx, List.getD_eq_getElem?_getD, List.getElem?_eq_getElem hk]
    exact List.getElem_mem _
  rw [hx] at hb hp hck
  have HX := Lib.hid (hit x hxm)
  have hxne := hne x hxm
  have hSx := hSb x hxm
  have HB := Lib.hid hb
  have HP := Lib.hid hp
  have HSB := Lib.hid hSb
  clear hc hf hit hne hb hp hx hSb
  go_enter Try.func41, Try.ntmps41
  go_wp2_with (fail)
  go_loopw [1] (fun vk wr => ∃ (j f : Nat) (cs : List Nat) (pc : Nat → Int), j < cs.length ∧ cs.length = bs.length ∧ j ≤ f ∧ vk = .int .i64 j ∧ Pile wr q g c cs tm pc ∧ ItemAt wr x (tm x) (pc x) ∧ (∀ b ∈ cs, S b) ∧ upL tm x f cs j = bs' ∧ upP tm x f cs j pc = pl' ∧ Kp S w wr) (fun i _ => (intOf i).toNat)
  case atStart => exact ⟨k, k, bs, pl, hk, rfl, Nat.le_refl _, rfl, H.out, HX.out, HSB.out, HB.out, HP.out, Kp.refl _ _⟩
  case round =>
    obtain ⟨j, f, cs, pc, hj, hcl, hjf, rfl, hpi, hix, hcs, hup, hpp, hkp⟩ := hrel
    have hj0 : (0 : Int) ≤ (j : Int) := by omega
    have hj1 : (j : Int) < (bs.length : Int) := by omega
    have hpa := hpi.p
    rw [hcl] at hpa
    obtain ⟨m0, m1, m2, m3, m4⟩ := id hpa
    have HPA := Lib.hid hpa
    have HPI := Lib.hid hpi
    have HIX := Lib.hid hix
    have HCS := Lib.hid hcs
    have HUP := Lib.hid hup
    have HPP := Lib.hid hpp
    have HKP := Lib.hid hkp
    clear hpa hpi hix hcs hup hpp hkp H HX HB HP HSB
    by_cases hz : 0 < j
    · have hlp : (j - 1) / 2 < cs.length := by omega
      have hq : IntKind.i64.wrap (((j : Int) - 1).tdiv 2) = (((j - 1) / 2 : Nat) : Int) := by rw [Int.tdiv_eq_ediv_of_nonneg (by omega), IntKind.wrap_i64]; omega
      have hq2 : ((j : Int) - 1).tdiv 2 = (((j - 1) / 2 : Nat) : Int) := by rw [Int.tdiv_eq_ediv_of_nonneg (by omega)]; omega
      have hym : cs.getD ((j - 1) / 2) 0 ∈ cs := by
        rw [List.getD_eq_getElem?_getD, List.getElem?_eq_getElem hlp]
        exact List.getElem_mem _
      have hcy := HPI.out.cell _ hlp
      have hyi := HPI.out.item _ hym
      have hyn := HPI.out.ne _ hym
      have hp0 : (0 : Int) ≤ (((j - 1) / 2 : Nat) : Int) := by omega
      have hp1 : (((j - 1) / 2 : Nat) : Int) < (bs.length : Int) := by omega
      have hySy := HCS.out _ hym
      have hup2 : ∀ f', f = f' + 1 → cmpT (tm x) (tm (cs.getD ((j - 1) / 2) 0)) < 0 → upL tm x f' (cs.set j (cs.getD ((j - 1) / 2) 0)) ((j - 1) / 2) = bs' ∧ upP tm x f' (cs.set j (cs.getD ((j - 1) / 2) 0)) ((j - 1) / 2) (plSet pc (cs.getD ((j - 1) / 2) 0) j) = pl' := by
        intro f' hf' hr
        have h1 := HUP.out
        have h2 := HPP.out
        subst hf'
        simp only [upL, upP] at h1 h2
        rw [if_pos ⟨hz, hr⟩] at h1 h2
        exact ⟨h1, h2⟩
      have hpaj : (j - 1) / 2 < j := by omega
      have hstop : ¬ cmpT (tm x) (tm (cs.getD ((j - 1) / 2) 0)) < 0 → bs' = cs.set j x ∧ pl' = plSet pc x j := by
        intro hr
        have hs1 := upL_stop tm x f cs j (by intro h; exact hr h.2)
        have hs2 := upP_stop tm x f cs j pc (by intro h; exact hr h.2)
        rw [HUP.out] at hs1
        rw [HPP.out] at hs2
        exact ⟨hs1, hs2⟩
      generalize cs.getD ((j - 1) / 2) 0 = y at *
      generalize (j - 1) / 2 = pa at *
      have HU2 := Lib.hid hup2
      clear hup2
      by_cases hr : cmpT (tm x) (tm y) < 0
      · obtain ⟨f', rfl⟩ : ∃ f', f = f' + 1 := ⟨f - 1, by omega⟩
        have HU3 := Lib.hid (HU2.out f' rfl hr)
        have HYI := Lib.hid hyi
        clear hstop
        have HL : Hid (∀ X : Ext wr, Calls Try.prog 34 #[.pointer (some ⟨x, 0, none⟩), .pointer (some ⟨y, 0, none⟩)] X.val fun e w' => e = .returned (.bool true) ∧ Below X.val.heap.size X.val w') := Lib.hid fun X => by
          have := less_any x y (tm x) (tm y) (pc x) (pc y) X.val (HIX.out.below X.bl) (hyi.below X.bl) _ rfl
          rwa [decide_eq_true hr] at this
        have e0 := ext_cell m0
        have e1 := ext_cell m1
        have e2 := ext_cell hcy
        clear hyi hr
        go_wp2_with (fail)
        refine wp_region_ext (by kernel_rfl) (by kernel_rfl) ?_
        repeat (go_big_quiet_step ((go_at_call 34; exact ext_calls (HL.out _))))
        refine wpQuiet_nil ?_
        rintro w2 ⟨⟨_, hb2⟩, rfl⟩
        have hW := HPI.out.below hb2
        have hsz2 := hb2.size
        have n0 : w2.cell? ⟨q, 0, none⟩ = some (.slice (some ⟨g, 0, none⟩) bs.length c) := (hb2.cell (p := ⟨q, 0, none⟩) m3).trans m0
        have n1 : w2.cell? ⟨g, pa, none⟩ = some (.pointer (some ⟨y, 0, none⟩)) := (hb2.cell (p := ⟨g, pa, none⟩) m4).trans hcy
        go_wp2_with (fail)
        refine (putp_any q g bs.length c y j cs tm pc _ hW hcl hj (HYI.out.below hb2) hyn.1 hyn.2 hn).mono ?_
        rintro e w1 ⟨rfl, rfl⟩
        go_wp2_with (fail)
        go_roundw
        case rel =>
          refine ⟨pa, f', cs.set j y, plSet pc y j, by rw [List.length_set]; omega, by rw [List.length_set]; exact hcl, by omega, by first | rfl | go_num, hW.put j y hj (HYI.out.below hb2) hyn.1 hyn.2, (HIX.out.below hb2).putW hxne.1, ?_, HU3.out.1, HU3.out.2, ?_⟩
          · intro b hb
            rcases List.mem_or_eq_of_mem_set hb with hb | rfl
            · exact HCS.out b hb
            · exact hySy
          · exact ((HKP.out.trans (Kp.ofBelow hb2)).setCell (p := ⟨g, j, none⟩) hS _).setCell (p := ⟨y, 3, none⟩) hySy _
        case measure => simp [intOf]; omega
      · have HS1 := Lib.hid (hstop hr).1
        have HS2 := Lib.hid (hstop hr).2
        clear hstop
        have HL : Hid (∀ X : Ext wr, Calls Try.prog 34 #[.pointer (some ⟨x, 0, none⟩), .pointer (some ⟨y, 0, none⟩)] X.val fun e w' => e = .returned (.bool false) ∧ Below X.val.heap.size X.val w') := Lib.hid fun X => by
          have := less_any x y (tm x) (tm y) (pc x) (pc y) X.val (HIX.out.below X.bl) (hyi.below X.bl) _ rfl
          rwa [decide_eq_false hr] at this
        have e0 := ext_cell m0
        have e1 := ext_cell m1
        have e2 := ext_cell hcy
        clear hyi hr
        go_wp2_with (fail)
        refine wp_region_ext (by kernel_rfl) (by kernel_rfl) ?_
        repeat (go_big_quiet_step ((go_at_call 34; exact ext_calls (HL.out _))))
        refine wpQuiet_nil ?_
        rintro w2 ⟨⟨_, hb2⟩, rfl⟩
        have hW := HPI.out.below hb2
        go_wp2_with (fail)
        refine (putp_any q g bs.length c x j cs tm pc _ hW hcl hj (HIX.out.below hb2) hxne.1 hxne.2 hn).mono ?_
        rintro e w1 ⟨rfl, rfl⟩
        go_wp2
        go_end0
        refine ⟨rfl, ?_, ?_⟩
        · rw [HS1.out, HS2.out]
          exact hW.put j x hj (HIX.out.below hb2) hxne.1 hxne.2
        · exact ((HKP.out.trans (Kp.ofBelow hb2)).setCell (p := ⟨g, j, none⟩) hS _).setCell (p := ⟨x, 3, none⟩) hSx _
    · have hs1 := upL_stop tm x f cs j (by intro h; exact hz h.1)
      have hs2 := upP_stop tm x f cs j pc (by intro h; exact hz h.1)
      rw [HUP.out] at hs1
      rw [HPP.out] at hs2
      have HS1 := Lib.hid hs1
      have HS2 := Lib.hid hs2
      have hz0 : j = 0 := by omega
      subst hz0
      clear hs1 hs2 hz
      go_wp2_with (fail)
      go_quiet (fail)
      go_wp2_with (fail)
      have hW := HPI.out.below (bl_drewN (Below.refl _ _) nq)
      refine (putp_any q g bs.length c x 0 cs tm pc _ hW hcl hj (HIX.out.below (bl_drewN (Below.refl _ _) nq)) hxne.1 hxne.2 hn).mono ?_
      rintro e w1 ⟨rfl, rfl⟩
      go_wp2
      go_end0
      refine ⟨rfl, ?_, ?_⟩
      · rw [HS1.out, HS2.out]
        exact hW.put 0 x hj (HIX.out.below (bl_drewN (Below.refl _ _) nq)) hxne.1 hxne.2
      · exact ((HKP.out.trans (Kp.ofBelow (bl_drewN (Below.refl _ _) nq))).setCell (p := ⟨g, 0, none⟩) hS _).setCell (p := ⟨x, 3, none⟩) hSx _
end Go.Proofs.Ytlmnnbmihimedaa
