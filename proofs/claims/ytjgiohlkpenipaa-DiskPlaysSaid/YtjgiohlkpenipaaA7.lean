/- Contract of Used. Conditions: as each theorem states them. -/
import Derived.Test.YtjgiohlkpenipaaA6
import Derived.Maps.RangeWalk
namespace Go.Proofs.Ytjgiohlkpenipaa
open Go.RowKit Go.Maps
set_option linter.unusedVariables false
set_option linter.unusedSimpArgs false

/-- What comes out of a walk over a map is a name of it, with its file. -/
theorem MapAt.came {w : World} {m : Nat} {l : Dir} {bk : Nat → Nat} {D : DataW Unit} (h : MapAt w m l bk D) {x : ByteArray} {kl : Lit} {c : Value} {y : DataW Unit × List MemPlace}
    (hkey : keyOf Try.prog 9 (.string x) = some kl) (hv : RQ c = some y) (hat : ∀ zd, D.atKey kl zd = y.1) : ∃ i, (x, i) ∈ l ∧ kl = klS x ∧ c = ptrV (bk i) := by
  obtain ⟨x', ex, hkl, hx'⟩ := Maps.keyOf_str Try.underlying9 hkey
  have e1 : kl = klS x := by
    rw [hkl]
    unfold klS
    have : x.data.toList = x' := by
      have := Value.string.inj ex
      rw [this]
    rw [this]
  have hx : okN x := by
    unfold okN
    have : x.data.toList = x' := by
      have := Value.string.inj ex
      rw [this]
    rw [← this] at hx'
    simpa using hx'
  subst e1
  have hh : has D (klS x) = true := has_true_of_atKey hat
  by_cases hm : ∀ p ∈ l, p.1 ≠ x
  · rw [h.no x hx hm] at hh
    cases hh
  · obtain ⟨⟨n, i⟩, hp, e⟩ : ∃ p : ByteArray × Nat, p ∈ l ∧ p.1 = x := Classical.byContradiction (fun hn => hm (fun p hp e => hn ⟨p, hp, e⟩))
    have e : n = x := e
    subst e
    refine ⟨i, hp, rfl, ?_⟩
    have h2 := (h.at_ _ hp).2
    rw [hat] at h2
    apply RQ_ptr_inv (ps := y.2)
    rw [hv, ← h2]
def sumD (g : Nat → Nat) (l : Dir) : Nat := (l.map (fun p => g p.2)).sum
def restOf (left : Lit → Bool) (l : Dir) : Dir := l.filter (fun p => left (klS p.1))
theorem same_kl (x y : ByteArray) : (klS x).sameKey (klS y) = decide (x = y) := by
  have h : (klS x).sameKey (klS y) = true ↔ x = y := by
    constructor
    · intro h
      apply kl_inj
      simpa [klS, Lit.sameKey] using h
    · rintro rfl
      simp [klS, Lit.sameKey]
  by_cases e : x = y
  · rw [decide_eq_true e]
    exact h.2 e
  · rw [decide_eq_false e, Bool.eq_false_iff]
    exact fun k => e (h.1 k)
theorem rest_step (g : Nat → Nat) {l : Dir} (hnd : (l.map Prod.fst).Nodup) {x : ByteArray} {i : Nat} {left : Lit → Bool} (hm : (x, i) ∈ l) (hl : left (klS x) = true) :
    sumD g (restOf left l) = g i + sumD g (restOf (fun z => left z && !z.sameKey (klS x)) l) := by
  induction l with
  | nil => cases hm
  | cons p l ih =>
    rw [List.map_cons, List.nodup_cons] at hnd
    rcases List.mem_cons.1 hm with e | hm
    · subst e
      have h1 : restOf (fun z => left z && !z.sameKey (klS x)) ((x, i) :: l) = restOf left l := by
        unfold restOf
        rw [List.filter_cons_of_neg (by simp [same_kl])]
        apply List.filter_congr
        intro q hq
        have : q.1 ≠ x := fun e => hnd.1 (List.mem_map.2 ⟨q, hq, e⟩)
        simp [same_kl, this]
      rw [h1]
      unfold restOf sumD
      rw [List.filter_cons_of_pos (by simpa using hl)]
      simp
    · have hne : p.1 ≠ x := fun e => hnd.1 (List.mem_map.2 ⟨_, hm, e.symm⟩)
      have ih := ih hnd.2 hm
      by_cases hp : left (klS p.1) = true
      · have h1 : restOf left (p :: l) = p :: restOf left l := List.filter_cons_of_pos (p := fun q : ByteArray × Nat => left (klS q.1)) (a := p) (l := l) hp
        have h2 : restOf (fun z => left z && !z.sameKey (klS x)) (p :: l) = p :: restOf (fun z => left z && !z.sameKey (klS x)) l := by
          unfold restOf
          rw [List.filter_cons_of_pos (by simp [same_kl, hp, hne])]
        rw [h1, h2]
        unfold sumD at *
        simp only [List.map_cons, List.sum_cons]
        omega
      · have h1 : restOf left (p :: l) = restOf left l := List.filter_cons_of_neg (p := fun q : ByteArray × Nat => left (klS q.1)) (a := p) (l := l) hp
        have h2 : restOf (fun z => left z && !z.sameKey (klS x)) (p :: l) = restOf (fun z => left z && !z.sameKey (klS x)) l := by
          unfold restOf
          rw [List.filter_cons_of_neg (by simp [hp])]
        rw [h1, h2]
        exact ih
theorem rest_all (g : Nat → Nat) {w : World} {m : Nat} {l : Dir} {bk : Nat → Nat} {D : DataW Unit} (h : MapAt w m l bk D) : sumD g (restOf (has D) l) = sumD g l := by
  unfold restOf
  rw [List.filter_eq_self.2 (fun p hp => (h.at_ p hp).1)]
theorem rest_none (g : Nat → Nat) {l : Dir} {left : Lit → Bool} (h : ∀ kl, left kl = false) : sumD g (restOf left l) = 0 := by
  unfold restOf
  rw [List.filter_eq_nil_iff.2 (fun p hp => by simp [h])]
  rfl
/-- How many bytes a disk's files have. -/
def DS.used (s : DS) : Nat := if s.down then 0 else sumD (fun i => (s.file i).data.size) s.dir
set_option maxRecDepth 100000 in
set_option maxHeartbeats 4000000 in
theorem used_any (L : Lay) (s : DS) (w : World) (h : DAt w L s) (hu : sumD (fun i => (s.file i).data.size) s.dir < 4611686018427387904) :
    Calls Try.prog 33 #[dP L] w fun r w' => r = .returned (.int .i64 s.used) ∧ Below w.heap.size w w' := by
  have HR := Lib.hid (fun w' (hb : Below w.heap.size w w') => ready_any L s w' (h.below hb))
  have H := Lib.hid h
  have hl := h.lt
  obtain ⟨_, _, _, _, a4, _⟩ := h.c
  obtain ⟨D, hD⟩ := h.dirm
  have HD := Lib.hid hD
  obtain ⟨U, hU⟩ : ∃ U, s.used = U := ⟨_, rfl⟩
  rw [hU]
  have HU := Lib.hid hU
  have HS := Lib.hid hu
  clear h hD hU hu
  unfold dP at *
  go_enter Try.func33, Try.ntmps33
  go_wp2_with (fail)
  refine (HR.out w (Below.refl _ _)).mono ?_
  rintro r w' ⟨rfl, rfl⟩
  cases hdn : s.down with
  | true =>
    have hU0 : U = 0 := by rw [← HU.out]; unfold DS.used; rw [if_pos hdn]
    subst hU0
    rw [if_pos rfl]
    go_wp2_with (fail)
    go_ret
    exact ⟨rfl, Below.refl _ _⟩
  | false =>
    have hUS : Hid (U = sumD (fun i => (s.file i).data.size) s.dir) := Lib.hid (by rw [← HU.out]; unfold DS.used; rw [if_neg (by simp [hdn])])
    clear hdn
    rw [if_neg (by decide)]
    go_wp2_with (at_range; refine wpList_range_own _ rfl _ 57 rfl 9 63 keyS u57 RQ L.md _ D rfl HD.out.own ?_; intro w0 hrg0 hg0 hs0)
    have HB0 : Hid (Below w.heap.size w w0) := Lib.hid ((Below.refl _ _).grown hg0 (Nat.le_refl _) (fun g hg => by cases hg))
    clear hg0 hs0
    go_frame
    go_loopw [3] (fun v3 wr => ∃ (left : Lit → Bool) (cnt n : Nat), wr.ranges Try.prog 9 RQ L.md w.heap.size s.dir.length D left cnt ∧ v3 = .int .i64 n ∧ n + sumD (fun i => (s.file i).data.size) (restOf left s.dir) = U ∧ Below w.heap.size w wr) (fun _ wr => wr.rangeLeft L.md w.heap.size)
    case atStart => exact ⟨_, _, 0, hrg0, rfl, by rw [rest_all _ HD.out, ← hUS.out]; omega, HB0.out⟩
    case round =>
      obtain ⟨left, cnt, n, hrg, rfl, hn, hbl⟩ := hrel
      have HBL := Lib.hid hbl
      have HNN := Lib.hid hn
      clear hbl hn
      go_wp2_with (at_next; refine wpList_next_ranges _ rfl _ rfl 9 keyS RQ (fun x : ByteArray => Value.string x) (id : Value → Value) (fun key kl hk => by obtain ⟨x, hx, _⟩ := Maps.keyOf_str Try.underlying9 hk; exact ⟨⟨x.toArray⟩, hx⟩) (fun v _ _ => ⟨v, rfl⟩) L.md w.heap.size s.dir.length _ _ _ rfl hrg ?_ ?_)
      · intro hc0 hl0
        have hU : n = U := by
          have := HNN.out
          rw [rest_none _ hl0] at this
          omega
        subst hU
        go_wp2_with (fail)
        go_ret
        exact ⟨rfl, HBL.out⟩
      · intro x c kl yd yp w2 cnt2 hkey hlk hv hat hrg2 hlt hg2 hs2 hen
        obtain ⟨i, hm, rfl, hc⟩ := HD.out.came (y := (yd, yp)) hkey hv hat
        have hbl2 : Below w.heap.size w w2 := HBL.out.grown hg2 HBL.out.size (fun g hg => by cases hg; exact Nat.le_refl _)
        have HBL2 := Lib.hid hbl2
        have hst := rest_step (fun i => (s.file i).data.size) HD.out.nd hm hlk
        have hfa := ((H.out.below hbl2).file i (.inl ⟨x, hm⟩)).1
        have f0 := hfa.cells.1
        have f0l := hfa.lt
        obtain ⟨k, hk⟩ : ∃ k, (s.file i).data.size = k := ⟨_, rfl⟩
        have HST : Hid (sumD (fun i => (s.file i).data.size) (restOf left s.dir) = k + sumD (fun i => (s.file i).data.size) (restOf (fun z => left z && !z.sameKey (klS x)) s.dir)) := Lib.hid (by rw [hst]; exact congrArg (· + _) hk)
        have hUb : n + k < 4611686018427387904 := by
          have h1 := HNN.out
          have h2 := HST.out
          have h3 := HS.out
          have h4 := hUS.out
          omega
        have hUi : (n : Int) + (k : Int) < 4611686018427387904 := by omega
        have hrl := hrg.left_eq
        have hrl2 := hrg2.left_eq
        have HMS : Hid (w2.rangeLeft L.md w.heap.size < wr.rangeLeft L.md w.heap.size) := Lib.hid (by rw [hrl, hrl2]; exact hlt)
        rw [hc] at hen ⊢
        unfold ptrV at hen ⊢
        have HRG2 := Lib.hid hrg2
        clear hst hfa hbl2 hg2 hs2 hlt hrl hrl2 hv hat hkey hc hrg hrg2 hUb
        go_wp2_with (fail)
        exact ⟨⟨_, _, n + k, HRG2.out, by push_cast; rfl, by have h1 := HNN.out; have h2 := HST.out; omega, HBL2.out⟩, HMS.out⟩
end Go.Proofs.Ytjgiohlkpenipaa
