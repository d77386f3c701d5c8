/- Contract of slices.Clone at operators. Conditions: as each theorem states them. -/
import Derived.Test.YtfojblbnhapedaaGreatDoorC5
import Derived.Lib.SliceRun
import Derived.Laws.AppendOwn
import Derived.Laws.AppendOwnNone
namespace Go.Proofs.YtfojblbnhapedaaGreatDoor
open Go.RowKit
set_option linter.unusedVariables false
set_option linter.unusedSimpArgs false

/-- The first i of 16 sources have been laid. -/
def mkLaid (i : Nat) : List Src := List.replicate i (-1125899906842624, false) ++ List.replicate (16 - i) (0, false)
def Mk.new (n : Nat) (b : Int) : Mk := ⟨n, b, mkLaid n, -1125899906842624⟩
def mkP (n b : Int) : Prop := 1 ≤ n ∧ n ≤ 16 ∧ 0 ≤ b ∧ b ≤ 1099511627776
instance (n b : Int) : Decidable (mkP n b) := by unfold mkP; infer_instance
theorem mkLaid_len {i : Nat} (h : i ≤ 16) : (mkLaid i).length = 16 := by
  unfold mkLaid
  simp
  omega
theorem mkLaid_set {i : Nat} (h : i < 16) : (mkLaid i).set i (-1125899906842624, false) = mkLaid (i + 1) := by
  unfold mkLaid
  rw [List.set_append_right _ _ (by simp)]
  rw [List.length_replicate, Nat.sub_self, show 16 - i = (16 - (i + 1)) + 1 from by omega, List.replicate_succ, List.set_cons_zero, List.replicate_succ']
  simp
theorem okM_new {n : Nat} {b : Int} (h : mkP n b) : OkM (Mk.new n b) := by
  obtain ⟨h1, h2, h3, h4⟩ := h
  refine ⟨by show 1 ≤ n; omega, by show n ≤ 16; omega, mkLaid_len (by omega), h3, h4, fun p hp => ?_, by show (-1125899906842624 : Int) ≤ -1125899906842624; omega, by show (-1125899906842624 : Int) ≤ 1125899906842624; omega⟩
  have hp : p ∈ mkLaid n := hp
  unfold mkLaid at hp
  rcases List.mem_append.1 hp with hp | hp
  · rw [(List.mem_replicate.1 hp).2]; decide
  · rw [(List.mem_replicate.1 hp).2]; decide
theorem scells_set1 : ∀ (l : List Src) (k : Nat) (h : k < l.length) (a : Int), (scells l).set (k * 2) (.int .i64 a) = scells (l.set k (a, (l[k]).2))
  | [], k, h, _ => absurd h (Nat.not_lt_zero _)
  | f :: l, 0, h, a => rfl
  | f :: l, k + 1, h, a => by
    have ih := scells_set1 l k (by simpa using h) a
    rw [show (k + 1) * 2 = k * 2 + 2 from by omega]
    show (Value.int .i64 f.1 :: Value.bool f.2 :: scells l).set (k * 2 + 2) (.int .i64 a) = Value.int .i64 f.1 :: Value.bool f.2 :: scells (l.set k (a, (l[k]'(by simpa using h)).2))
    rw [← ih]
    rfl
theorem MkAt.setMark {w : World} {b k : Nat} {m : Mk} (h : MkAt w b m) (hk : k < m.all.length) (a : Int) : MkAt (w.setCell ⟨b, 2 + k * 2, none⟩ (.int .i64 a)) b { m with all := m.all.set k (a, (m.all[k]).2) } := by
  have h2 := set_heap (i := 2 + k * 2) (v := .int .i64 a) h
  have e : (mkcells m).setIfInBounds (2 + k * 2) (.int .i64 a) = mkcells { m with all := m.all.set k (a, (m.all[k]).2) } := by
    have hl := scells_len m.all
    unfold mkcells
    rw [List.setIfInBounds_toArray, show 2 + k * 2 = k * 2 + 1 + 1 from by omega]
    rw [List.set_cons_succ, List.set_cons_succ, List.set_append_left _ _ (by omega), scells_set1 m.all k hk]
  rw [e] at h2
  exact h2
theorem mkLaid_at {i : Nat} (h : i < 16) : (mkLaid i)[i]'(by rw [mkLaid_len (by omega)]; omega) = (0, false) := by
  unfold mkLaid
  rw [List.getElem_append_right (by simp)]
  simp
set_option maxRecDepth 100000 in
set_option maxHeartbeats 4000000 in
theorem mknew_no (n b : Int) (w : World) (h : ¬ mkP n b) : Calls Tryz.prog 35 #[.int .i64 n, .int .i64 b] w fun e w' => e = .returned (.tuple #[.pointer none, .int .i64 2]) ∧ w' = w := by
  by_cases h1 : 1 ≤ n
  · by_cases h2 : n ≤ 16
    · by_cases h3 : 0 ≤ b
      · by_cases h4 : b ≤ 1099511627776
        · exact absurd ⟨h1, h2, h3, h4⟩ h
        · clear h
          go_enter Tryz.func35, Tryz.ntmps35
          go_wp2_with (fail)
          go_ret2
          exact ⟨rfl, rfl⟩
      · clear h
        go_enter Tryz.func35, Tryz.ntmps35
        go_wp2_with (fail)
        go_ret2
        exact ⟨rfl, rfl⟩
    · clear h
      go_enter Tryz.func35, Tryz.ntmps35
      go_wp2_with (fail)
      go_ret2
      exact ⟨rfl, rfl⟩
  · clear h
    go_enter Tryz.func35, Tryz.ntmps35
    go_wp2_with (fail)
    go_ret2
    exact ⟨rfl, rfl⟩
set_option maxRecDepth 100000 in
set_option maxHeartbeats 4000000 in
theorem mknew_yes (n : Nat) (b : Int) (w : World) (h : mkP n b) : Calls Tryz.prog 35 #[.int .i64 n, .int .i64 b] w fun e w' => e = .returned (.tuple #[ptrV w.heap.size, .int .i64 0]) ∧ Below w.heap.size w w' ∧ MkAt w' w.heap.size (Mk.new n b) := by
  obtain ⟨h1, h2, h3, h4⟩ := h
  go_enter Tryz.func35, Tryz.ntmps35
  have ha := heap_alloc_new w (Obj.cells #[.int .i64 n, .int .i64 b, .int .i64 0, .bool false, .int .i64 0, .bool false, .int .i64 0, .bool false, .int .i64 0, .bool false, .int .i64 0, .bool false, .int .i64 0, .bool false, .int .i64 0, .bool false, .int .i64 0, .bool false, .int .i64 0, .bool false, .int .i64 0, .bool false, .int .i64 0, .bool false, .int .i64 0, .bool false, .int .i64 0, .bool false, .int .i64 0, .bool false, .int .i64 0, .bool false, .int .i64 0, .bool false, .int .i64 (-1125899906842624)] 126)
  have HA : Hid (MkAt _ w.heap.size ⟨n, b, mkLaid 0, -1125899906842624⟩) := Lib.hid ha
  have HB := Lib.hid (bl_alloc (Below.refl w.heap.size w) (Obj.cells #[.int .i64 n, .int .i64 b, .int .i64 0, .bool false, .int .i64 0, .bool false, .int .i64 0, .bool false, .int .i64 0, .bool false, .int .i64 0, .bool false, .int .i64 0, .bool false, .int .i64 0, .bool false, .int .i64 0, .bool false, .int .i64 0, .bool false, .int .i64 0, .bool false, .int .i64 0, .bool false, .int .i64 0, .bool false, .int .i64 0, .bool false, .int .i64 0, .bool false, .int .i64 0, .bool false, .int .i64 0, .bool false, .int .i64 (-1125899906842624)] 126))
  clear ha
  go_wp2_with (fail)
  go_loopw [32] (fun vi wr => ∃ i : Nat, i ≤ n ∧ vi = .int .i64 i ∧ MkAt wr w.heap.size ⟨n, b, mkLaid i, -1125899906842624⟩ ∧ Below w.heap.size w wr) (fun i _ => n - (intOf i).toNat)
  case atStart =>
    refine ⟨0, Nat.zero_le _, rfl, ?_, ?_⟩
    · have h := HA.out
      clear HA HB
      unfold MkAt at h ⊢
      rw [← h]
    · exact bl_alloc (Below.refl _ _) _
  case round =>
    obtain ⟨i, hin, rfl, hm, hbl⟩ := hrel
    have HM := Lib.hid hm
    have HBL := Lib.hid hbl
    by_cases hi : i < n
    · have hi1 : (i : Int) < (n : Int) := by omega
      have hi0 : (0 : Int) ≤ (i : Int) := by omega
      have hi16 : (i : Int) < 16 := by omega
      have hil : i < (mkLaid i).length := by rw [mkLaid_len (by omega)]; omega
      obtain ⟨s0, s1⟩ := hm.src hil
      have f0 := hm.fz (2 + i * 2)
      have bl := hm.lt
      have HN : Hid (MkAt (wr.setCell ⟨w.heap.size, 2 + i * 2, none⟩ (.int .i64 (-1125899906842624))) w.heap.size ⟨n, b, mkLaid (i + 1), -1125899906842624⟩) := Lib.hid (by
        have h5 := hm.setMark hil (-1125899906842624)
        rw [← mkLaid_set (by omega)]
        rw [show ((mkLaid i)[i]'hil).2 = false from by rw [mkLaid_at (by omega)]] at h5
        exact h5)
      have HB2 := Lib.hid (hbl.setCell (p := ⟨w.heap.size, 2 + i * 2, none⟩) (Nat.le_refl _) (.int .i64 (-1125899906842624)))
      dsimp only at s0 s1
      clear hm hbl
      go_wp2_with (fail)
      exact ⟨⟨i + 1, by omega, by push_cast; rfl, HN.out, HB2.out⟩, by simp [intOf]; omega⟩
    · have hi1 : ¬ (i : Int) < (n : Int) := by omega
      have hie : i = n := by omega
      subst hie
      clear hm hbl
      go_wp2_with (fail)
      go_ret2
      exact ⟨rfl, HBL.out, HM.out⟩
end Go.Proofs.YtfojblbnhapedaaGreatDoor
namespace Go.Proofs.YtfojblbnhapedaaGreatDoor
open Go.RowKit
set_option linter.unusedVariables false
set_option linter.unusedSimpArgs false

theorem i48 : (Tryz.prog.info? 48).map (fun i => (i.zero, i.size, i.bytes)) = some (some (.agg #[.string ⟨#[]⟩, .int .i64 0, .int .i64 0, .int .i64 0, .int .i64 0]), 5, 48) := by kernel_rfl
theorem und22 : Tryz.prog.underlying 22 = some (.slice 48) := by kernel_rfl
theorem eq22 (w : World) (a : Option Addr) (n c : Nat) : (binOp .eql 22 (.slice a n c) (.slice none 0 0)).run Tryz.prog w = .ok (.bool a.isNone) w :=
  Lib.run_eql_slice_nil (P := Tryz.prog) w 22 48 a n c 0 0 und22
def pcells (l : List JOp) : List Value := l.flatMap opcells
theorem pcells_len (l : List JOp) : (pcells l).length = l.length * 5 := by
  induction l with
  | nil => rfl
  | cons p l ih =>
    show (opcells p ++ pcells l).length = _
    rw [List.length_append, ih, show (opcells p).length = 5 from rfl, List.length_cons]
    omega
theorem pcells_one (l : List JOp) : ∀ u ∈ pcells l, u.oneCell' = true := by
  intro u hu
  obtain ⟨p, _, hp⟩ := List.mem_flatMap.1 hu
  unfold opcells at hp
  simp only [List.mem_cons, List.not_mem_nil, or_false] at hp
  rcases hp with rfl | rfl | rfl | rfl | rfl <;> rfl
theorem pcells_at : ∀ (l : List JOp) (i : Nat), i < l.length → ∀ j, j < 5 → (pcells l)[i * 5 + j]? = (opcells (l.getD i zeroP))[j]?
  | [], i, h, _, _ => absurd h (Nat.not_lt_zero _)
  | p :: l, 0, _, j, hj => by
    show (opcells p ++ pcells l)[0 * 5 + j]? = _
    rw [Nat.zero_mul, Nat.zero_add, List.getElem?_append_left (by rw [show (opcells p).length = 5 from rfl]; exact hj)]
    rfl
  | p :: l, i + 1, h, j, hj => by
    have ih := pcells_at l i (by simpa using h) j hj
    show (opcells p ++ pcells l)[(i + 1) * 5 + j]? = _
    rw [List.getElem?_append_right (by rw [show (opcells p).length = 5 from rfl]; omega), show (opcells p).length = 5 from rfl, show (i + 1) * 5 + j - 5 = i * 5 + j from by omega, ih]
    rfl
theorem RdP.cells {w : World} {ad : Addr} {l : List JOp} (h : RdP w (some ad) l) : ∀ (j : Nat) u, (pcells l)[j]? = some u → w.cell? (ad.add j) = some u := by
  intro j u hu
  have hj : j < l.length * 5 := by rw [← pcells_len]; exact (List.getElem?_eq_some_iff.1 hu).1
  obtain ⟨b, off, e, _, hc⟩ := h.1 (by omega)
  cases e
  obtain ⟨c0, c1, c2, c3, c4⟩ := hc (j / 5) (by omega)
  have hat := pcells_at l (j / 5) (by omega) (j % 5) (by omega)
  rw [show j / 5 * 5 + j % 5 = j from by omega, hu] at hat
  rw [Addr.add_lit]
  have hm : j % 5 = 0 ∨ j % 5 = 1 ∨ j % 5 = 2 ∨ j % 5 = 3 ∨ j % 5 = 4 := by omega
  rcases hm with h | h | h | h | h
  · rw [show off + j = off + j / 5 * 5 from by omega, c0]; rw [h] at hat; exact hat.symm
  · rw [show off + j = off + j / 5 * 5 + 1 from by omega, c1]; rw [h] at hat; exact hat.symm
  · rw [show off + j = off + j / 5 * 5 + 2 from by omega, c2]; rw [h] at hat; exact hat.symm
  · rw [show off + j = off + j / 5 * 5 + 3 from by omega, c3]; rw [h] at hat; exact hat.symm
  · rw [show off + j = off + j / 5 * 5 + 4 from by omega, c4]; rw [h] at hat; exact hat.symm
theorem own_rdP {w : World} {B : Nat} {v : Value} {n : Nat} {l : List JOp} (h : w.ownsRow B 48 5 v n (pcells l)) (hn : n = l.length) (hz : ∀ o ∈ l, okN o.nm) : ∃ A c, v = .slice A n c ∧ (n ≤ c ∧ c ≤ 9223372036854775807) ∧ RdP w A l ∧ ∀ a, A = some a → B ≤ a.block ∧ a.block < w.heap.size := by
  rcases h.2 with ⟨h0, h1⟩ | ⟨g, c, cur, h0, hB, hg, hr⟩
  · subst h0 h1
    have hl : l = [] := List.eq_nil_of_length_eq_zero (by omega)
    subst hl
    exact ⟨none, 0, rfl, ⟨Nat.le_refl _, Nat.zero_le _⟩, ⟨fun h => absurd h (by simp), hz⟩, fun a h => by cases h⟩
  · subst h0
    refine ⟨some ⟨g, 0, none⟩, c, rfl, ⟨hr.1, by have := hr.2.1; unfold maxLen at this; omega⟩, ⟨fun hl => ⟨g, 0, rfl, (Array.getElem?_eq_some_iff.1 hg).1, fun i hi => ?_⟩, hz⟩, fun a h => by cases h; exact ⟨hB, (Array.getElem?_eq_some_iff.1 hg).1⟩⟩
    have hk : ∀ j, j < 5 → w.cell? ⟨g, 0 + i * 5 + j, none⟩ = (opcells (l.getD i zeroP))[j]? := by
      intro j hj
      rw [cell_of hg, ← pcells_at l i hi j hj, ← hr.2.2.2, List.getElem?_take_of_lt (by omega), Array.getElem?_toList, Nat.zero_add]
    exact ⟨hk 0 (by omega), hk 1 (by omega), hk 2 (by omega), hk 3 (by omega), hk 4 (by omega)⟩
set_option maxRecDepth 100000 in
set_option maxHeartbeats 4000000 in
theorem clone_any (A : Option Addr) (c : Nat) (l : List JOp) (w : World) (hA : RdP w A l) (hlen : l.length ≤ 1000000) :
    Calls Tryz.prog 34 #[.slice A l.length c] w fun r w' => ∃ A' c', r = .returned (.slice A' l.length c') ∧ (l.length ≤ c' ∧ c' ≤ 9223372036854775807) ∧ RdP w' A' l ∧ (∀ a, A' = some a → w.heap.size ≤ a.block ∧ a.block < w'.heap.size) ∧ Below w.heap.size w w' := by
  have hz := hA.2
  rcases A with _ | ad
  · have hl0 : l = [] := by
      apply Classical.byContradiction
      intro h
      obtain ⟨b, o, e, _⟩ := hA.1 (List.length_pos_iff.2 h)
      cases e
    subst hl0
    have hq := eq22 w none 0 c
    clear hA hlen
    go_enter Tryz.func34, Tryz.ntmps34
    go_wp2_with (fail)
    go_ret
    exact ⟨none, 0, rfl, ⟨Nat.le_refl _, Nat.zero_le _⟩, ⟨fun h => absurd h (by simp), hz⟩, (fun a h => by cases h), Below.refl _ _⟩
  · have hq0 := eq22 w (some ad) l.length c
    have hq : (binOp .eql 22 (.slice (some ad) l.length c) (.slice none 0 0)).run Tryz.prog w = .ok (.bool false) w := hq0
    obtain ⟨i0, hi, hz0, hz1, hz2⟩ := info_parts i48
    have HOWN : Hid ((w.alloc (Obj.cells #[] 48)).ownsRow w.heap.size 48 5 (.slice (some ⟨w.heap.size, 0, none⟩) 0 0) 0 []) := Lib.hid ⟨rfl, .inr ⟨w.heap.size, 0, #[], rfl, Nat.le_refl _, heap_alloc_new w _, Nat.le_refl _, Nat.zero_le _, rfl, rfl⟩⟩
    have HB0 : Hid (Below w.heap.size w (w.alloc (Obj.cells #[] 48))) := Lib.hid (bl_alloc (Below.refl _ _) _)
    have HNEW : Hid (∀ j u, (pcells l)[j]? = some u → (w.alloc (Obj.cells #[] 48)).cell? (ad.add j) = some u) := Lib.hid (hA.below HB0.out).cells
    obtain ⟨n, hn⟩ : ∃ n, l.length = n := ⟨_, rfl⟩
    have HWL : Hid ((pcells l).length = n * 5) := Lib.hid (by rw [pcells_len, hn])
    have HML : Hid (0 + n ≤ maxLen) := Lib.hid (by unfold maxLen; omega)
    have HBY : Hid ((0 + n) * 48 ≤ 140737488355328) := Lib.hid (by omega)
    have HBS : Hid (w.heap.size ≤ (w.alloc (Obj.cells #[] 48)).heap.size) := Lib.hid (by simp)
    have HII := Lib.hid hi
    have HN := Lib.hid hn
    rw [hn] at hq ⊢
    clear hA hq0 hlen hi hn
    go_enter Tryz.func34, Tryz.ntmps34
    go_wp2_with (at_builtin; refine wpList_append_own _ rfl _ _ 22 rfl w.heap.size 48 i0 (.agg #[.string ⟨#[]⟩, .int .i64 0, .int .i64 0, .int .i64 0, .int .i64 0]) 5 48 und22 HII.out hz0 hz1 hz2 rfl (by decide) _ 0 [] rfl HOWN.out ad n c (pcells l) rfl HWL.out HNEW.out (pcells_one l) HML.out HBY.out HBS.out ?_; intro v' w' ho' hg' hv')
    have HO : Hid (w'.ownsRow w.heap.size 48 5 v' n (pcells l)) := Lib.hid (by simpa using ho')
    have HB : Hid (Below w.heap.size w w') := Lib.hid (HB0.out.grown hg' HB0.out.size (fun k hk => by cases hk; exact Nat.le_refl _))
    obtain ⟨A', c', rfl, h1, h2, h3⟩ := own_rdP HO.out HN.out.symm hz
    have H2 := Lib.hid h2
    have H3 := Lib.hid h3
    clear ho' hg' hv' h2 h3
    go_wp2_with (fail)
    go_ret
    exact ⟨A', c', rfl, h1, H2.out, H3.out, HB.out⟩
end Go.Proofs.YtfojblbnhapedaaGreatDoor
