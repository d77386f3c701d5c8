/- The chooser. Conditions: as each theorem states them. -/
import Derived.Test.YtjgiohlkpenipaaB5
namespace Go.Proofs.Ytjgiohlkpenipaa
open Go.RowKit Go.Maps
set_option linter.unusedVariables false
set_option linter.unusedSimpArgs false

/-- From the address A on the numbers stand. -/
def RdC (w : World) (A : Option Addr) (l : List Int) : Prop :=
  (0 < l.length → ∃ b off, A = some ⟨b, off, none⟩ ∧ b < w.heap.size ∧ ∀ i, i < l.length → w.cell? ⟨b, off + i, none⟩ = some (.int .i64 (l.getD i 0))) ∧ ∀ x ∈ l, -9223372036854775808 ≤ x ∧ x < 9223372036854775808
theorem RdC.kw {w w' : World} {S : Nat → Prop} {A : Option Addr} {l : List Int} (h : RdC w A l) (k : Kw S w w') (hS : 0 < l.length → ∀ a, A = some a → ¬ S a.block) : RdC w' A l := by
  refine ⟨fun hl => ?_, h.2⟩
  obtain ⟨b, off, e, hb, hc⟩ := h.1 hl
  exact ⟨b, off, e, Nat.lt_of_lt_of_le hb k.size, fun i hi => (k.cell hb (hS hl _ e)).trans (hc i hi)⟩
theorem RdC.below {w w' : World} {A : Option Addr} {l : List Int} (h : RdC w A l) (k : Below w.heap.size w w') : RdC w' A l := h.kw (S := fun _ => False) (Kw.ofBelow k) (fun _ _ _ h => h)
/-- One choice. -/
def pick (cs : List Int) (n : Nat) : Nat := ((cs.headD 0) % (n : Int)).toNat
theorem pick_lt (cs : List Int) {n : Nat} (h : 0 < n) : pick cs n < n := by
  unfold pick
  have := Int.emod_lt_of_pos (cs.headD 0) (show (0 : Int) < n by omega)
  have := Int.emod_nonneg (cs.headD 0) (show (n : Int) ≠ 0 by omega)
  omega
theorem tmod_pick (c : Int) {n : Nat} (h : 0 < n) : (c.tmod n + n).tmod n = ((c % (n : Int)).toNat : Int) := by
  have hn : (0 : Int) < n := by omega
  have h1 := Int.emod_lt_of_pos c hn
  have h2 := Int.emod_nonneg c (show (n : Int) ≠ 0 by omega)
  have h3 : ((c % (n : Int)).toNat : Int) = c % n := by omega
  rw [h3]
  have h4 := Int.tmod_lt_of_pos c hn
  have h5 : -(n : Int) < c.tmod n := by
    have := Int.lt_tmod_of_pos c hn
    omega
  rw [Int.tmod_eq_emod_of_nonneg (by omega)]
  rw [Int.add_emod_right]
  rw [Int.tmod_eq_emod]
  split
  · simp
  · rw [Int.sub_emod, Int.emod_emod_of_dvd _ (Int.dvd_refl _)]
    rw [show ((n : Int).natAbs : Int) = n by simp]
    simp
/-- The chooser has answered. -/
def ChR (w : World) (bc n : Nat) (cs : List Int) (A : Option Addr) (r : Ending) (w' : World) : Prop :=
  r = .returned (.int .i64 (pick cs n)) ∧ ∃ A' c', Box w' bc (.slice A' cs.tail.length c') 22 ∧ cs.tail.length ≤ c' ∧ RdC w' A' cs.tail ∧ (∀ a, A' = some a → ∃ a0, A = some a0 ∧ a0.block = a.block) ∧ Kw (fun b => b = bc) w w'
theorem Box.set {w : World} {b : Nat} {v : Value} {t : TypeId} (h : Box w b v t) (u : Value) : Box (w.setCell ⟨b, 0, none⟩ u) b u t := set_heap h
set_option maxRecDepth 100000 in
set_option maxHeartbeats 1000000 in
theorem choose_nil (bc n c : Nat) (A : Option Addr) (w : World) (hb : Box w bc (.slice A 0 c) 22) (hn : 0 < n) (hn2 : n ≤ 1000000000000) : Calls Try.prog 67 #[.int .i64 n, ptrV bc] w (ChR w bc n [] A) := by
  have c0 := hb.cell
  have l0 := hb.lt
  have HB := Lib.hid hb
  have g1 : (0 : Int) < (n : Int) := by omega
  have g2 : (n : Int) ≤ 1000000000000 := by omega
  have g0 : (n : Int) ≠ 0 := by omega
  have hp : pick [] n = 0 := by simp [pick]
  have ht : ((0 : Int).tmod n + n).tmod n = 0 := by simp
  clear hb
  unfold ptrV
  go_enter Try.func67, Try.ntmps67
  go_wp2_with (fail)
  go_ret
  exact ⟨by rw [hp]; rfl, A, c, HB.out, Nat.zero_le _, ⟨fun h => absurd h (by simp), fun x hx => by cases hx⟩, fun a ha => ⟨a, ha, rfl⟩, Kw.refl _ _⟩
set_option maxRecDepth 100000 in
set_option maxHeartbeats 1000000 in
theorem choose_cons (bc n c : Nat) (x : Int) (cs : List Int) (A : Option Addr) (w : World) (hb : Box w bc (.slice A (cs.length + 1) c) 22) (hA : RdC w A (x :: cs)) (hc : cs.length + 1 ≤ c) (hoff : ∀ a, A = some a → a.block ≠ bc) (hn : 0 < n) (hn2 : n ≤ 1000000000000) : Calls Try.prog 67 #[.int .i64 n, ptrV bc] w (ChR w bc n (x :: cs) A) := by
  have c0 := hb.cell
  have l0 := hb.lt
  have HB := Lib.hid hb
  obtain ⟨b, off, rfl, hbl, hcl⟩ := hA.1 (by simp)
  have c1 := hcl 0 (by simp)
  obtain ⟨hx1, hx2⟩ := hA.2 x (by simp)
  have g1 : (0 : Int) < (n : Int) := by omega
  have g2 : (n : Int) ≤ 1000000000000 := by omega
  have g0 : (n : Int) ≠ 0 := by omega
  have f0 : w.frozen? ⟨bc, 0, none⟩ = false := froz_of hb 0
  obtain ⟨m, hm⟩ : ∃ m, cs.length = m := ⟨_, rfl⟩
  rw [hm] at c0 hc
  have g3 : (0 : Int) < (m : Int) + 1 := by omega
  have g4 : (m : Int) + 1 ≤ (c : Int) := by omega
  have c1 : w.cell? ⟨b, off, none⟩ = some (.int .i64 x) := by simpa using c1
  have HA := Lib.hid hA
  clear hb hA hcl
  unfold ptrV
  go_enter Try.func67, Try.ntmps67
  go_wp2_with (fail)
  go_region
  obtain ⟨A', hA'⟩ : ∃ A' : Option Addr, (if c = 1 then some (⟨b, off, none⟩ : Addr) else some ⟨b, off + 1, none⟩) = A' := ⟨_, rfl⟩
  rw [hA']
  have HW : Hid (Box ((w.setCell ⟨bc, 0, none⟩ (.slice A' m (c - 1))).drew) bc (.slice A' m (c - 1)) 22) := Lib.hid (HB.out.set _)
  have hk : Kw (fun k => k = bc) w ((w.setCell ⟨bc, 0, none⟩ (.slice A' m (c - 1))).drew) := ((Kw.refl (fun k => k = bc) w).setCell (p := ⟨bc, 0, none⟩) rfl _).drew
  have HK := Lib.hid hk
  have HR : Hid (RdC ((w.setCell ⟨bc, 0, none⟩ (.slice A' m (c - 1))).drew) A' cs) := Lib.hid (by
    refine ⟨fun hl => ?_, fun y hy => HA.out.2 y (List.mem_cons_of_mem _ hy)⟩
    obtain ⟨b', off', e, _, hcl⟩ := HA.out.1 (by simp)
    cases e
    have hc1 : c ≠ 1 := by omega
    rw [if_neg hc1] at hA'
    refine ⟨b, off + 1, hA'.symm, Nat.lt_of_lt_of_le hbl hk.size, fun i hi => ?_⟩
    have h1 := hcl (i + 1) (by simpa using hi)
    have h2 := hk.cell (i := off + 1 + i) hbl (hoff _ rfl)
    rw [h2]
    rw [show off + 1 + i = off + (i + 1) by omega]
    simpa using h1)
  have HA2 : Hid (∀ a, A' = some a → ∃ a0, some (⟨b, off, none⟩ : Addr) = some a0 ∧ a0.block = a.block) := Lib.hid (fun a ha => by
    rw [ha] at hA'
    refine ⟨_, rfl, ?_⟩
    split at hA'
    · cases hA'; rfl
    · cases hA'; rfl)
  clear hk hA' c1 f0 c0
  generalize ((w.setCell ⟨bc, 0, none⟩ (.slice A' m (c - 1))).drew) = w2 at *
  have t1 := Int.tmod_lt_of_pos x g1
  have t2 := Int.lt_tmod_of_pos x g1
  have t3 := tmod_pick x hn
  have hp : pick (x :: cs) n = (x % (n : Int)).toNat := rfl
  rw [← hp] at t3
  have HP := Lib.hid t3
  obtain ⟨q, hq⟩ : ∃ q, x.tmod n = q := ⟨_, rfl⟩
  rw [hq] at t1 t2 HP
  have HQ := Lib.hid hq
  clear t3 hp
  go_wp2_with (fail)
  go_ret
  have hP := HP.out
  rw [Int.tmod_eq_emod_of_nonneg (by omega)] at hP
  refine ⟨by rw [hP]; rfl, A', c - 1, ?_, by show cs.length ≤ c - 1; omega, HR.out, HA2.out, HK.out⟩
  have h1 := HW.out
  rw [← hm] at h1
  exact h1
theorem choose_any (bc n c : Nat) (cs : List Int) (A : Option Addr) (w : World) (hb : Box w bc (.slice A cs.length c) 22) (hA : RdC w A cs) (hc : cs.length ≤ c) (hoff : 0 < cs.length → ∀ a, A = some a → a.block ≠ bc) (hn : 0 < n) (hn2 : n ≤ 1000000000000) : Calls Try.prog 67 #[.int .i64 n, ptrV bc] w (ChR w bc n cs A) := by
  cases cs with
  | nil => exact choose_nil bc n c A w hb hn hn2
  | cons x cs => exact choose_cons bc n c x cs A w hb hA hc (hoff (by simp)) hn hn2
end Go.Proofs.Ytjgiohlkpenipaa
