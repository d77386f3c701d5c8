/- Contracts of marks.See, Tell, Idle. Conditions: as each theorem states them. -/
import Derived.Test.YtfojblbnhapedaaGreatDoorC4
namespace Go.Proofs.YtfojblbnhapedaaGreatDoor
open Go.RowKit
set_option linter.unusedVariables false
set_option linter.unusedSimpArgs false

theorem askV_0 {m : Mk} {k t : Int} (h : askV m k t = 0) : 0 ≤ k ∧ k < m.n ∧ -1125899906842624 ≤ t ∧ t ≤ 1125899906842624 := by
  unfold askV at h
  split at h
  · cases h
  · omega
theorem askV_02 (m : Mk) (k t : Int) : askV m k t = 0 ∨ askV m k t = 2 := by
  unfold askV
  split
  · exact .inr rfl
  · exact .inl rfl
/-- A source reports at a time: whether it is late, and a number. -/
def Mk.see (m : Mk) (k at_ : Int) : Bool × Int × Mk := if askV m k at_ = 0 then (decide (at_ ≤ m.now), 0, m.tell k.toNat (at_ - m.bound - 1)) else (false, 2, m)
def Mk.told (m : Mk) (k u : Int) : Int × Mk := if askV m k u = 0 then (0, m.tell k.toNat u) else (2, m)
def Mk.idle (m : Mk) (k : Int) : Int × Mk := if askV m k 0 = 0 then (0, m.change k.toNat ((m.all.getD k.toNat (0, false)).1, true)) else (2, m)
theorem OkM.see {m : Mk} (h : OkM m) (k t : Int) : OkM (m.see k t).2.2 := by
  unfold Mk.see
  by_cases he : askV m k t = 0
  · rw [if_pos he]
    have := askV_0 he
    have := h.b1
    exact h.tell (by omega) (by omega)
  · rw [if_neg he]
    exact h
theorem OkM.told {m : Mk} (h : OkM m) (k t : Int) : OkM (m.told k t).2 := by
  unfold Mk.told
  by_cases he : askV m k t = 0
  · rw [if_pos he]
    have := askV_0 he
    exact h.tell (by omega) (by omega)
  · rw [if_neg he]
    exact h
theorem OkM.idle {m : Mk} (h : OkM m) (k : Int) : OkM (m.idle k).2 := by
  unfold Mk.idle
  by_cases he : askV m k 0 = 0
  · rw [if_pos he]
    obtain ⟨h0, h1, _, _⟩ := askV_0 he
    obtain ⟨hka, e⟩ := getD_at h (k := k.toNat) (by omega)
    rw [e]
    have hm := h.ms _ (List.getElem_mem hka)
    exact h.change k.toNat (t := ((m.all[k.toNat]).1, true)) hm.1 hm.2
  · rw [if_neg he]
    exact h
set_option maxRecDepth 100000 in
set_option maxHeartbeats 4000000 in
theorem told_any (b : Nat) (k u : Int) (m : Mk) (w : World) (h : MkAt w b m) (ok : OkM m) :
    Calls Tryz.prog 41 #[ptrV b, .int .i64 k, .int .i64 u] w fun e w' => e = .returned (.int .i64 (m.told k u).1) ∧ MkAt w' b (m.told k u).2 ∧ Kw (fun x => x = b) w w' := by
  have HA := Lib.hid (asked_any b m k u w h ok)
  rcases askV_02 m k u with he | he
  · obtain ⟨h0, h1, h2, h3⟩ := askV_0 he
    obtain ⟨k, rfl⟩ : ∃ n : Nat, k = (n : Int) := ⟨k.toNat, by omega⟩
    have HT := Lib.hid (tell_any b k u m w h ok (by omega) h3 (by omega))
    have HR : Hid (m.told k u = (0, m.tell k u)) := Lib.hid (by unfold Mk.told; rw [if_pos he]; rfl)
    rw [he] at HA
    rw [HR.out]
    unfold ptrV at *
    clear h ok he h0 h1 h2 h3
    go_enter Tryz.func41, Tryz.ntmps41
    go_wp2_with (fail)
    refine HA.out.mono ?_
    rintro q w8 ⟨rfl, rfl⟩
    go_wp2_with (fail)
    refine HT.out.mono ?_
    rintro q w9 ⟨rfl, h9, k9⟩
    go_wp2_with (fail)
    go_ret
    exact ⟨rfl, h9, k9⟩
  · have HR : Hid (m.told k u = (2, m)) := Lib.hid (by unfold Mk.told; rw [if_neg (by omega)])
    have HM := Lib.hid h
    rw [he] at HA
    rw [HR.out]
    unfold ptrV at *
    clear h ok he
    go_enter Tryz.func41, Tryz.ntmps41
    go_wp2_with (fail)
    refine HA.out.mono ?_
    rintro q w8 ⟨rfl, rfl⟩
    go_wp2_with (fail)
    go_ret
    exact ⟨rfl, HM.out, Kw.refl _ _⟩
set_option maxRecDepth 100000 in
set_option maxHeartbeats 4000000 in
theorem see_any (b : Nat) (k u : Int) (m : Mk) (w : World) (h : MkAt w b m) (ok : OkM m) :
    Calls Tryz.prog 40 #[ptrV b, .int .i64 k, .int .i64 u] w fun e w' => e = .returned (.tuple #[.bool (m.see k u).1, .int .i64 (m.see k u).2.1]) ∧ MkAt w' b (m.see k u).2.2 ∧ Kw (fun x => x = b) w w' := by
  have HA := Lib.hid (asked_any b m k u w h ok)
  rcases askV_02 m k u with he | he
  · obtain ⟨h0, h1, h2, h3⟩ := askV_0 he
    obtain ⟨k, rfl⟩ : ∃ n : Nat, k = (n : Int) := ⟨k.toNat, by omega⟩
    have hb1 := ok.b1
    have hb2 := ok.b2
    have HT := Lib.hid (tell_any b k (u - m.bound - 1) m w h ok (by omega) (by omega) (by omega))
    have HR : Hid (m.see k u = (decide (u ≤ m.now), 0, m.tell k (u - m.bound - 1))) := Lib.hid (by unfold Mk.see; rw [if_pos he]; rfl)
    have c1 := h.c.2
    have c34 := h.nowc ok.len
    have hl := h.lt
    have e1 : IntKind.i64.wrap (u - m.bound) = u - m.bound := by rw [IntKind.wrap_i64]; omega
    have e2 : IntKind.i64.wrap (u - m.bound - 1) = u - m.bound - 1 := by rw [IntKind.wrap_i64]; omega
    rw [he] at HA
    rw [HR.out]
    unfold ptrV at *
    dsimp only
    clear h ok he h0 h1
    go_enter Tryz.func40, Tryz.ntmps40
    go_wp2_with (fail)
    refine HA.out.mono ?_
    rintro q w8 ⟨rfl, rfl⟩
    go_wp2_with (fail)
    refine HT.out.mono ?_
    rintro q w9 ⟨rfl, h9, k9⟩
    go_wp2_with (fail)
    go_ret2
    exact ⟨rfl, h9, k9⟩
  · have HR : Hid (m.see k u = (false, 2, m)) := Lib.hid (by unfold Mk.see; rw [if_neg (by omega)])
    have HM := Lib.hid h
    rw [he] at HA
    rw [HR.out]
    unfold ptrV at *
    dsimp only
    clear h ok he
    go_enter Tryz.func40, Tryz.ntmps40
    go_wp2_with (fail)
    refine HA.out.mono ?_
    rintro q w8 ⟨rfl, rfl⟩
    go_wp2_with (fail)
    go_ret2
    exact ⟨rfl, HM.out, Kw.refl _ _⟩
set_option maxRecDepth 100000 in
set_option maxHeartbeats 4000000 in
theorem idle_any (b : Nat) (k : Int) (m : Mk) (w : World) (h : MkAt w b m) (ok : OkM m) :
    Calls Tryz.prog 42 #[ptrV b, .int .i64 k] w fun e w' => e = .returned (.int .i64 (m.idle k).1) ∧ MkAt w' b (m.idle k).2 ∧ Kw (fun x => x = b) w w' := by
  have HA := Lib.hid (asked_any b m k 0 w h ok)
  rcases askV_02 m k 0 with he | he
  · obtain ⟨h0, h1, h2, h3⟩ := askV_0 he
    obtain ⟨k, rfl⟩ : ∃ n : Nat, k = (n : Int) := ⟨k.toNat, by omega⟩
    have HR : Hid (m.idle k = (0, m.change k ((m.all.getD k (0, false)).1, true))) := Lib.hid (by unfold Mk.idle; rw [if_pos he]; rfl)
    obtain ⟨hka, e⟩ := getD_at ok (k := k) (by omega)
    have hm := ok.ms _ (List.getElem_mem hka)
    rw [e] at HR
    obtain ⟨s0, s1⟩ := h.src hka
    have hl := h.lt
    have g0 : (0 : Int) ≤ (k : Int) := by omega
    have g1 : (k : Int) < 16 := by have := ok.n2; omega
    obtain ⟨⟨mk, idle⟩, hs⟩ : ∃ s, m.all[k] = s := ⟨_, rfl⟩
    rw [hs] at s0 hm HR
    dsimp only at s0 hm HR
    have HC := Lib.hid (change_any b k (mk, true) m w h ok (by omega) hm.1 hm.2)
    rw [he] at HA
    rw [HR.out]
    unfold ptrV at *
    dsimp only at HC ⊢
    clear h ok he h0 h1 e s1 hs hka
    go_enter Tryz.func42, Tryz.ntmps42
    go_wp2_with (fail)
    refine HA.out.mono ?_
    rintro q w8 ⟨rfl, rfl⟩
    go_wp2_with (fail)
    refine HC.out.mono ?_
    rintro q w9 ⟨rfl, h9, k9⟩
    go_wp2_with (fail)
    go_ret
    exact ⟨rfl, h9, k9⟩
  · have HR : Hid (m.idle k = (2, m)) := Lib.hid (by unfold Mk.idle; rw [if_neg (by omega)])
    have HM := Lib.hid h
    rw [he] at HA
    rw [HR.out]
    unfold ptrV at *
    clear h ok he
    go_enter Tryz.func42, Tryz.ntmps42
    go_wp2_with (fail)
    refine HA.out.mono ?_
    rintro q w8 ⟨rfl, rfl⟩
    go_wp2_with (fail)
    go_ret
    exact ⟨rfl, HM.out, Kw.refl _ _⟩
end Go.Proofs.YtfojblbnhapedaaGreatDoor
