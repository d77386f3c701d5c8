/- Openings of points and of a point, with what a nil slice has; points that are the same are right alike. Conditions: as each theorem states them. -/
import Derived.Test.YtmalcekbhnkfgaaC2
import Derived.Test.YtmalcekbhnkfgaaE7
import Derived.Lib.SmallJoins
namespace Go.Proofs.Ytmalcekbhnkfgaa
open Go.RowKit Go.Maps Go.ChangeShapes Go.WideShapes Go.Deep Go.Joins
set_option linter.unusedVariables false
set_option linter.unusedSimpArgs false

section
variable {H : Type} {enc : TypeId × Value → H} {w : World} {base : Nat} {spare : Nat → Bool} {held : Bool} {r : Reach} {b0 : Nat}
theorem open_none24 {fuel : Nat} {A : Option Addr} {n c : Nat} {y : DataW H × List MemPlace} (h : DataW.trod enc Try.prog w base spare held fuel 24 [.slice A n c] = some y) : A = none → c = 0 := by
  intro hA
  rcases open_slice und24 h with ⟨h0, _⟩ | ⟨a', len, cap, m, k, D, PP, h0, _⟩
  · simp at h0
    exact h0.2.2
  · simp at h0
    rw [hA] at h0
    cases h0.1
set_option maxRecDepth 100000 in
theorem open_okA {A : Option Addr} {c : Nat} {l : List Pt} {d : DataW H} {ps : List MemPlace} (hr : RdP w w.heap.size A l) (h : DataW.Trod enc Try.prog w base spare held 22 (.slice A l.length c) d ps) :
    (A = none → c = 0) ∧ okA l := by
  obtain ⟨fuel, hf⟩ := h
  rcases open_slice und22 hf with ⟨h0, _⟩ | ⟨a', len', cap', m, n, D, PP, h0, hb, hl, hm, hmm, _, hx⟩
  · simp [Value.cells] at h0
    obtain ⟨h1, h2, h3⟩ := h0
    refine ⟨fun _ => h3, fun p hp => ?_⟩
    rw [h2] at hp
    cases hp
  · simp [Value.cells] at h0
    obtain ⟨h1, h2, h3⟩ := h0
    subst h1
    refine ⟨(fun h => by cases h), fun p hp => ?_⟩
    have hlm : len' ≤ m := by rw [hmm]; split <;> omega
    obtain ⟨i, hi, rfl⟩ := List.mem_iff_getElem.1 hp
    obtain ⟨cs', g1, g2⟩ := hx i (by omega)
    rw [c26] at g1
    obtain ⟨_, hlen, hcell⟩ := World.cells?_some g1
    obtain ⟨xs, k, hk, hxy, _, hxl, hf⟩ := DataW.trod_struct Try.underlying26 g2
    match xs, hxl, cs', hlen with
    | [y0, y1], _, [v0, v1], _ =>
      have q1 := hf 1 _ rfl
      simp [c23, c24] at q1
      have u1 := hcell 1 (by omega)
      rw [add_add] at u1
      obtain ⟨b, off, e, _, _, hc⟩ := hr.1 (by omega)
      cases e
      obtain ⟨_, d1⟩ := hc i hi
      have hv : v1 = .slice (l.getD i zeroP).A (l.getD i zeroP).fs.length (l.getD i zeroP).c := by
        have u2 : w.cell? ⟨b, off + i * 2 + 1, none⟩ = some v1 := by simpa [Addr.add, Nat.add_assoc] using u1
        rw [d1] at u2
        exact (Option.some.inj u2).symm
      rw [hv] at q1
      have := open_none24 q1
      rw [getP hi] at this
      exact this
theorem open_points2 {v : Value} {d : DataW H} {ps : List MemPlace} (hv : Value.okWide Try.prog w r b0 22 v) (h : DataW.Trod enc Try.prog w base spare held 22 v d ps) :
    ∃ A c l, v = .slice A (List.length (α := Pt) l) c ∧ RdP w w.heap.size A l ∧ l.length ≤ c ∧ l.length ≤ maxLen ∧ (A = none → c = 0) ∧ okA l := by
  obtain ⟨A, c, l, rfl, h1, h2, h3⟩ := open_points hv h
  obtain ⟨h4, h5⟩ := open_okA h1 h
  exact ⟨A, c, l, rfl, h1, h2, h3, h4, h5⟩
set_option maxRecDepth 100000 in
theorem open_point {v : Value} {d : DataW H} {ps : List MemPlace} (hv : Value.okWide Try.prog w r b0 26 v) (h : DataW.Trod enc Try.prog w base spare held 26 v d ps) :
    ∃ q : Pt, v = ptV q ∧ RdS w w.heap.size q.A q.fs ∧ q.fs.length ≤ q.c ∧ (q.A = none → q.c = 0) := by
  obtain ⟨c0, c1, y0, y1, m, rfl, _, _, g0, g1⟩ := open_agg2 Try.underlying26 (by kernel_rfl) (by kernel_rfl) hv h
  obtain ⟨n0, e0, _, f0⟩ := DataW.trod_int Try.underlying23 g0
  obtain ⟨A', c', l', e1, r1, r2⟩ := open_shares g1
  simp at e0 e1
  subst e0 e1
  exact ⟨⟨n0, l', A', c'⟩, rfl, r1, r2, open_none24 g1⟩
end

theorem sameP_symm {L l : List Pt} (h : sameP L l) : sameP l L := ⟨h.1.symm, fun i hi => ⟨(h.2 i (by rw [← h.1]; exact hi)).1.symm, (h.2 i (by rw [← h.1]; exact hi)).2.symm⟩⟩
theorem sameP_refl (l : List Pt) : sameP l l := ⟨rfl, fun i _ => ⟨rfl, rfl⟩⟩
theorem sameP_trans {a b c : List Pt} (h : sameP a b) (k : sameP b c) : sameP a c :=
  ⟨h.1.trans k.1, fun i hi => ⟨(h.2 i (by rw [k.1]; exact hi)).1.trans (k.2 i hi).1, (h.2 i (by rw [k.1]; exact hi)).2.trans (k.2 i hi).2⟩⟩
theorem sameP_cons {p q : Pt} {L l : List Pt} (h : sameP (p :: L) (q :: l)) : p.id = q.id ∧ p.fs = q.fs ∧ sameP L l := by
  have h0 := h.2 0 (by simp)
  refine ⟨h0.1, h0.2, by simpa using h.1, fun i hi => ?_⟩
  have := h.2 (i + 1) (by simpa using hi)
  simpa using this
theorem sameP_snoc {p q : Pt} {L l : List Pt} (h : sameP L l) (h1 : p.id = q.id) (h2 : p.fs = q.fs) : sameP (L ++ [p]) (l ++ [q]) := by
  refine ⟨by simp [h.1], fun i hi => ?_⟩
  rw [List.length_append, List.length_singleton] at hi
  by_cases hil : i < l.length
  · have hiL : i < L.length := by rw [h.1]; exact hil
    rw [getP (show i < (L ++ [p]).length by simp; omega), getP (show i < (l ++ [q]).length by simp; omega), List.getElem_append_left hiL, List.getElem_append_left hil, ← getP hiL, ← getP hil]
    exact h.2 i hil
  · have hie : i = l.length := by omega
    have hlL := h.1
    rw [getP (show i < (L ++ [p]).length by simp; omega), getP (show i < (l ++ [q]).length by simp; omega), List.getElem_append_right (by omega), List.getElem_append_right (by omega)]
    simp [h1, h2]
theorem sameP_mem {L l : List Pt} (h : sameP L l) {p : Pt} (hp : p ∈ L) : ∃ q ∈ l, p.id = q.id ∧ p.fs = q.fs := by
  obtain ⟨i, hi, rfl⟩ := List.mem_iff_getElem.1 hp
  have hil : i < l.length := by rw [← h.1]; exact hi
  have := h.2 i hil
  rw [getP hi, getP hil] at this
  exact ⟨_, List.getElem_mem hil, this⟩
theorem flat_same {L l : List Pt} (h : sameP L l) (k : Nat) : flat k L = flat k l := by
  induction L generalizing l k with
  | nil =>
    cases l with
    | nil => rfl
    | cons q l => have := h.1; simp at this
  | cons p L ih =>
    cases l with
    | nil => have := h.1; simp at this
    | cons q l =>
      obtain ⟨_, h2, h3⟩ := sameP_cons h
      simp only [flat, h2, ih h3]
theorem allF_same {L l : List Pt} (h : sameP L l) : allF L = allF l := by unfold allF; rw [flat_same h]
theorem may_same {p q : Pt} (h1 : p.id = q.id) (h2 : p.fs = q.fs) : mayP p ↔ mayP q := by unfold mayP; rw [h1, h2]
theorem ids_same {L l : List Pt} (h : sameP L l) : L.map Pt.id = l.map Pt.id := by
  induction L generalizing l with
  | nil =>
    cases l with
    | nil => rfl
    | cons q l => have := h.1; simp at this
  | cons p L ih =>
    cases l with
    | nil => have := h.1; simp at this
    | cons q l =>
      obtain ⟨h1, _, h3⟩ := sameP_cons h
      simp only [List.map_cons, h1, ih h3]
theorem idsUp_map (l : List Pt) : idsUp l ↔ (l.map Pt.id).Pairwise (· < ·) := by unfold idsUp; rw [List.pairwise_map]
theorem right_same1 {L l : List Pt} (h : sameP L l) (hr : RightP l) : RightP L := by
  refine ⟨by rw [h.1]; exact hr.1, fun p hp => ?_, ?_, by rw [allF_same h]; exact hr.2.2.2⟩
  · obtain ⟨q, hq, e1, e2⟩ := sameP_mem h hp
    exact (may_same e1 e2).2 (hr.2.1 q hq)
  · rw [idsUp_map, ids_same h, ← idsUp_map]
    exact hr.2.2.1
theorem right_same {L l : List Pt} (h : sameP L l) : RightP L ↔ RightP l := ⟨right_same1 (sameP_symm h), right_same1 h⟩
theorem rightB_same {L l : List Pt} (h : sameP L l) : rightB L = rightB l := by
  by_cases hr : RightP l
  · rw [rightB_t hr, rightB_t ((right_same h).2 hr)]
  · rw [rightB_f hr, rightB_f (fun e => hr ((right_same h).1 e))]
theorem addG_same {L l : List Pt} {p q : Pt} (h : sameP L l) (h2 : p.fs = q.fs) : addG L p = addG l q := by unfold addG; rw [allF_same h, h2, h.1]
theorem comes_same {L l : List Pt} {p q : Pt} (h : sameP L l) (h1 : p.id = q.id) (h2 : p.fs = q.fs) : comes L p ↔ comes l q := by
  unfold comes
  rw [right_same h, may_same h1 h2, h.1, h1]
  refine and_congr Iff.rfl (and_congr Iff.rfl (forall_congr' fun h0 => ?_))
  rw [(h.2 (l.length - 1) (by omega)).1]
theorem addE_same {L l : List Pt} {p q : Pt} (h : sameP L l) (h1 : p.id = q.id) (h2 : p.fs = q.fs) : addE L p = addE l q := by
  by_cases hc : comes l q
  · rw [addE_t hc, addE_t ((comes_same h h1 h2).2 hc), addG_same h h2]
  · rw [addE_f hc, addE_f (fun e => hc ((comes_same h h1 h2).1 e))]
/-- What ref.Add answers. -/
def RAddPost (w : World) (l : List Pt) (p : Pt) (e : Ending) (w' : World) : Prop :=
  ∃ v, e = .returned (.tuple #[v, .int .i64 (addE l p)]) ∧ (addE l p ≠ 0 → v = .slice none 0 0) ∧ (addE l p = 0 → ∃ A' c', v = .slice A' (l.length + 1) c' ∧ RdP w' w'.heap.size A' (l ++ [p])) ∧ Below w.heap.size w w'
theorem radd_any (A : Option Addr) (c : Nat) (l : List Pt) (p : Pt) (w : World) (hA : RdP w w.heap.size A l) (hpr : RdS w w.heap.size p.A p.fs) (hpc : p.fs.length ≤ p.c) (hnone : A = none → c = 0) :
    Calls Try.prog 14 #[.slice A l.length c, ptV p] w (RAddPost w l p) := by
  have bad : ¬ comes l p → ∀ e w', e = .returned (.tuple #[.slice none 0 0, .int .i64 2]) ∧ Below w.heap.size w w' → RAddPost w l p e w' := by
    rintro h e w' ⟨rfl, hb⟩
    exact ⟨_, by rw [addE_f h], fun _ => rfl, fun h0 => by rw [addE_f h] at h0; omega, hb⟩
  have good : comes l p → ∀ e w', (∃ v, e = .returned (.tuple #[v, .int .i64 (addG l p)]) ∧ (addG l p ≠ 0 → v = .slice none 0 0) ∧ (addG l p = 0 → ∃ A' c', v = .slice A' (l.length + 1) c' ∧ RdP w' w'.heap.size A' (l ++ [p])) ∧ Below w.heap.size w w') → RAddPost w l p e w' := by
    rintro h e w' h1
    unfold RAddPost
    rw [addE_t h]
    exact h1
  by_cases hr : RightP l
  · by_cases hp : mayP p
    · by_cases h0 : l.length = 0
      · exact (radd_good0 A l.length c l p w rfl hA hr hp hpr hpc hnone h0).mono (good ⟨hr, hp, fun h => by omega⟩)
      · by_cases hi : (l.getD (l.length - 1) zeroP).id < p.id
        · exact (radd_goodN A l.length c l p w rfl hA hr hp hpr hpc hnone (by omega) hi).mono (good ⟨hr, hp, fun _ => hi⟩)
        · exact (radd_arg A l.length c l p w rfl hA hr hp hpr (by omega) (by omega)).mono (bad (fun h => hi (h.2.2 (by omega))))
    · exact (radd_maynot A l.length c l p w rfl hA hr hp hpr).mono (bad (fun h => hp h.2.1))
  · exact (radd_wrong A l.length c l p w rfl hA hr).mono (bad (fun h => hr h.1))
end Go.Proofs.Ytmalcekbhnkfgaa
namespace Go.Proofs.Ytmalcekbhnkfgaa
open Go.RowKit Go.Maps Go.Shelf
set_option linter.unusedVariables false
set_option linter.unusedSimpArgs false

/-- A cell that may be written. -/
def LiveC (w : World) (b j : Nat) : Prop := ∃ u, w.cell? ⟨b, j, none⟩ = some u ∧ w.frozen? ⟨b, j, none⟩ = false
theorem LiveC.set {w : World} {b j : Nat} (h : LiveC w b j) (b' j' : Nat) (v : Value) : LiveC (w.setCell ⟨b', j', none⟩ v) b j := by
  obtain ⟨u, h1, h2⟩ := h
  have hf : (w.setCell ⟨b', j', none⟩ v).frozen? ⟨b, j, none⟩ = false := by rw [World.frozen?_setCell]; exact h2
  by_cases he : (⟨b', j', none⟩ : Addr) = ⟨b, j, none⟩
  · rw [he] at hf ⊢
    exact ⟨v, World.cell?_setCell_same w _ _ h1, hf⟩
  · exact ⟨u, (World.cell?_setCell_other w _ _ _ he).trans h1, hf⟩
theorem LiveC.kw {w w' : World} {S : Nat → Prop} {b j : Nat} (h : LiveC w b j) (k : Kw S w w') (hb : b < w.heap.size) (hS : ¬ S b) : LiveC w' b j := by
  obtain ⟨u, h1, h2⟩ := h
  exact ⟨u, (k.cell hb hS).trans h1, (k.frozen hb hS).trans h2⟩
/-- The files of the points may be written. -/
def Clr (w : World) (B g : Nat) (l : List Pt) : Prop := ∀ p ∈ l, 0 < p.fs.length → ∃ b, p.A = some ⟨b, 0, none⟩ ∧ B ≤ b ∧ b ≠ g ∧ b < w.heap.size ∧ ∀ j, j < p.fs.length * 4 → LiveC w b j
theorem Clr.set {w : World} {B g : Nat} {l : List Pt} (h : Clr w B g l) (b' j' : Nat) (v : Value) : Clr (w.setCell ⟨b', j', none⟩ v) B g l := fun p hp h0 => by
  obtain ⟨b, e, h1, h2, h3, h4⟩ := h p hp h0
  exact ⟨b, e, h1, h2, by simpa [World.setCell] using h3, fun j hj => (h4 j hj).set b' j' v⟩
theorem Clr.of_own {w : World} {B g : Nat} {l : List Pt} (h : ∀ p ∈ l, FreP w B g p) : Clr w B g l := fun p hp h0 => by
  obtain ⟨h1, h2⟩ := h p hp
  rcases own_form h1 with ⟨e, h3⟩ | ⟨b, c, e, hc, hB, hb⟩
  · omega
  · simp only [Value.slice.injEq] at e
    obtain ⟨e1, _, _⟩ := e
    refine ⟨b, e1, hB, h2 _ e1, hb, fun j hj => ?_⟩
    rw [e1] at h1
    have hl : j < (scells p.fs).length := by rw [scells_length]; exact hj
    have := own_cell h1 j _ (List.getElem?_eq_getElem hl)
    exact ⟨_, this.1, this.2⟩
theorem Clr.kw {w w' : World} {S : Nat → Prop} {B g : Nat} {l : List Pt} (h : Clr w B g l) (k : Kw S w w') (hS : ∀ b, B ≤ b → ¬ S b) : Clr w' B g l := fun p hp h0 => by
  obtain ⟨b, e, h1, h2, h3, h4⟩ := h p hp h0
  exact ⟨b, e, h1, h2, Nat.lt_of_lt_of_le h3 k.size, fun j hj => (h4 j hj).kw k h3 (hS b h1)⟩
theorem sameP_one {L : List Pt} {p : Pt} (h : sameP L [p]) : ∃ q, L = [q] ∧ q.id = p.id ∧ q.fs = p.fs := by
  match L, h with
  | [], h => exact absurd h.1 (by simp)
  | [q], h => exact ⟨q, rfl, h.2 0 (by simp)⟩
  | q :: r :: L, h => exact absurd h.1 (by simp)
set_option maxRecDepth 100000 in
set_option maxHeartbeats 16000000 in
theorem sadd_small (A : Option Addr) (n c : Nat) (l : List Pt) (p : Pt) (W : World) (hl : l.length = n) (hA : RdP W W.heap.size A l) (hnone : A = none → c = 0) (ho : okA l) (hpr : RdS W W.heap.size p.A p.fs) (hpc : p.fs.length ≤ p.c) (hpn : p.A = none → p.c = 0) :
    Calls Try.prog 3 #[.slice A n c, ptV p] W fun e W' => e = .returned (.bool true) ∧ Below W.heap.size W W' := by
  have HLN := Lib.hid hl
  have HA := Lib.hid hA
  have HG := Lib.hid (fun (w' : World) (h : Below W.heap.size W w') => great_any A c l w' ((hA.below h).more h.size (Nat.le_refl _)))
  have HRR := Lib.hid (fun (w' : World) (h : Below W.heap.size W w') => rright_any A c l w' ((hA.below h).more h.size (Nat.le_refl _)))
  have HRA := Lib.hid (fun (w' : World) (h : Below W.heap.size W w') => radd_any A c l p w' ((hA.below h).more h.size (Nat.le_refl _)) ((hpr.below h).more h.size (Nat.le_refl _)) hpc hnone)
  rw [hl] at HG HRR HRA
  have HO := Lib.hid ho
  have HPR := Lib.hid hpr
  have HPC := Lib.hid hpc
  have HPN := Lib.hid hpn
  obtain ⟨pid, pfs, pA, pc⟩ := p
  unfold ptV at *
  dsimp only at *
  have bP := BoxP.new W ⟨pid, pfs, pA, pc⟩
  have hb0 := bl_alloc (Below.refl W.heap.size W) (Obj.cells #[.int .u64 pid, .slice pA pfs.length pc] 26)
  have hs0 : (W.alloc (Obj.cells #[.int .u64 pid, .slice pA pfs.length pc] 26)).heap.size = W.heap.size + 1 := by simp
  dsimp only at bP
  clear hl hA hnone ho hpr hpc hpn
  go_enter Try.func3, Try.ntmps3
  go_wp2_with (fail)
  generalize (W.alloc (Obj.cells #[.int .u64 pid, .slice pA pfs.length pc] 26)) = w1 at *
  have HB1 := Lib.hid hb0
  have BP := Lib.hid bP
  clear hb0
  refine (HG.out w1 HB1.out).mono ?_
  rintro e w' ⟨⟨b, rfl, hsm⟩, rfl⟩
  cases b with
  | true =>
    clear hsm bP
    go_wp2_with (go_at_call 11; refine (awake_any _).mono ?_; rintro e w3 ⟨rfl, hb3⟩)
    go_ret
    exact ⟨rfl, HB1.out.trans (hb3.mono (by omega))⟩
  | false =>
    have HSM := Lib.hid (hsm rfl)
    obtain ⟨x0, x1⟩ := bP.cells
    dsimp only at x0 x1
    have hxl : W.heap.size < w1.heap.size := by omega
    clear hsm bP
    by_cases h3 : pfs.length ≤ 300
    · have h3i : ¬ (300 : Int) < (pfs.length : Int) := by omega
      have h3d : decide ((300 : Int) < (pfs.length : Int)) = false := decide_eq_false h3i
      have hn20 : n ≤ 20 := by have := HSM.out.1; rw [HLN.out] at this; exact this
      have hf300 : ∀ p ∈ l, p.fs.length ≤ 100000 := fun p hp => by have := HSM.out.2 p hp; omega
      have HF := Lib.hid hf300
      clear hf300
      go_wp2_with ((go_at_call 12; refine Hid.out ?_))
      refine Lib.hid ?_
      refine (copy_len A n c l w1 HLN.out ((HA.out.below HB1.out).more HB1.out.size (Nat.le_refl _)) (by omega) HF.out HO.out).mono ?_
      rintro e w2 ⟨g1, c1, L1, rfl, hc1, hs1, hg1, hg1', hr1, hm1, hb2⟩
      have HS1 := Lib.hid hs1
      have HR1 := Lib.hid hr1
      have HM1 := Lib.hid hm1
      have hz2 := hb2.size
      have HB2 := Lib.hid (HB1.out.trans (hb2.mono HB1.out.size))
      have HP2 := Lib.hid (BP.out.kw hb2 (by omega))
      obtain ⟨x0, x1⟩ := HP2.out.cells
      dsimp only at x0 x1
      have hxl2 : W.heap.size < w2.heap.size := by omega
      have hL1 : Hid (L1.length = n) := Lib.hid (by rw [hs1.1, HLN.out])
      clear hs1 hr1 hm1 hb2
      go_wp2_with ((go_at_call 12; refine Hid.out ?_))
      refine Lib.hid ?_
      have hbA := bl_alloc (Below.refl w2.heap.size w2) (Obj.cells #[.int .u64 pid, .slice pA pfs.length pc] 26)
      have h2 := two_new w2 (.int .u64 pid) (.slice pA pfs.length pc) 26
      have hzA : (w2.alloc (Obj.cells #[.int .u64 pid, .slice pA pfs.length pc] 26)).heap.size = w2.heap.size + 1 := by simp
      generalize (w2.alloc (Obj.cells #[.int .u64 pid, .slice pA pfs.length pc] 26)) = w3 at *
      have HB3 := Lib.hid (HB2.out.trans (hbA.mono HB2.out.size))
      have hRP : RdP w3 w3.heap.size (some ⟨w2.heap.size, 0, none⟩) [⟨pid, pfs, pA, pc⟩] := by
        refine ⟨fun _ => ⟨w2.heap.size, 0, rfl, by omega, Nat.le_refl _, fun i hi => ?_⟩, fun q hq => ?_⟩
        · have hi0 : i = 0 := by simpa using hi
          subst hi0
          exact ⟨h2.1, h2.2⟩
        · rw [List.mem_singleton.1 hq]
          exact ⟨(HPR.out.below HB3.out).more HB3.out.size (Nat.le_refl _), HPC.out⟩
      refine (copy_len (some ⟨w2.heap.size, 0, none⟩) 1 1 [⟨pid, pfs, pA, pc⟩] w3 rfl hRP (by omega) (fun q hq => by rw [List.mem_singleton.1 hq]; dsimp only; omega) (fun q hq => by rw [List.mem_singleton.1 hq]; exact HPN.out)).mono ?_
      rintro e w4 ⟨g2, c2, L2, rfl, hc2, hs2, hg2, hg2', hr2, hm2, hb4⟩
      obtain ⟨q, rfl, hqi, hqf⟩ := sameP_one hs2
      dsimp only at hqi hqf
      have hz4 := hb4.size
      have HB34 := Lib.hid (show Below w2.heap.size w2 w4 from hbA.trans (hb4.mono (by omega)))
      have HB4 := Lib.hid (HB2.out.trans (HB34.out.mono HB2.out.size))
      have HR1 := Lib.hid ((HR1.out.below HB34.out).more HB34.out.size (Nat.le_refl _))
      have HM1 := Lib.hid ((HB34.out.cell (p := ⟨g1, n * 2, none⟩) hg1').trans HM1.out)
      have HP4 := Lib.hid (HP2.out.kw HB34.out hxl2)
      have HR2 := Lib.hid hr2
      have HM2 := Lib.hid hm2
      have HS2 := Lib.hid hs2
      have hg14 : g1 < w4.heap.size := by omega
      obtain ⟨hq0, hq1⟩ : w4.cell? ⟨g2, 0, none⟩ = some (.int .u64 q.id) ∧ w4.cell? ⟨g2, 1, none⟩ = some (.slice q.A q.fs.length q.c) := by
        obtain ⟨b, off, e, _, _, hc⟩ := hr2.1 (by simp)
        cases e
        have := hc 0 (by simp)
        simpa using this
      obtain ⟨hqr, hqc⟩ := hr2.2 q (by simp)
      have HQR := Lib.hid hqr
      have HQC := Lib.hid hqc
      have HQI := Lib.hid hqi
      have HQF := Lib.hid hqf
      have hc2' : (1 : Int) ≤ (c2 : Int) := by omega
      clear hRP h2 hs2 hr2 hm2 hb4 hbA hqr hqc hqi hqf x0 x1
      go_wp2_with ((go_at_call 13; refine Hid.out ?_))
      refine Lib.hid ?_
      have HAD := Lib.hid (add_any (some ⟨g1, 0, none⟩) c1 L1 q w4 HR1.out HQR.out HQC.out)
      unfold ptV at HAD
      rw [hL1.out] at HAD
      refine HAD.out.mono ?_
      rintro e w5 ⟨v, rfl, hv0, hv1, hb5⟩
      have hae : Hid (addE l ⟨pid, pfs, pA, pc⟩ = addE L1 q) := Lib.hid (addE_same (sameP_symm HS1.out) HQI.out.symm HQF.out.symm)
      have HV0 := Lib.hid hv0
      have HV1 := Lib.hid hv1
      have hz5 := hb5.size
      have HB45 := Lib.hid hb5
      have HB5 := Lib.hid (HB4.out.trans (hb5.mono HB4.out.size))
      obtain ⟨x0, x1⟩ := (HP4.out.kw hb5 (by omega)).cells
      dsimp only at x0 x1
      have hxl5 : W.heap.size < w5.heap.size := by omega
      clear hv0 hv1 hb5 HAD hq0 hq1
      go_wp2_with ((go_at_call 14; refine Hid.out ?_))
      refine Lib.hid ?_
      refine (HRA.out w5 HB5.out).mono ?_
      rintro e w6 ⟨v2, rfl, hy0, hy1, hb6⟩
      rw [hae.out] at hy0 hy1 ⊢
      rw [HLN.out] at hy1
      have hz6 := hb6.size
      have HB56 := Lib.hid hb6
      have HB6 := Lib.hid (HB5.out.trans (hb6.mono HB5.out.size))
      have HY0 := Lib.hid hy0
      have HY1 := Lib.hid hy1
      rw [hL1.out] at HV1
      clear hy0 hy1 hb6 x0 x1
      obtain ⟨r, hr⟩ : ∃ r, addE L1 q = r := ⟨_, rfl⟩
      rw [hr] at HV0 HV1 HY0 HY1 ⊢
      clear hr hae
      have HRO := Lib.hid (fun (w' : World) (h : Below w4.heap.size w4 w') => right_any (some ⟨g1, 0, none⟩) c1 L1 w' ((HR1.out.below h).more h.size (Nat.le_refl _)))
      have hrs := rightB_same HS1.out
      rw [hL1.out, hrs] at HRO
      obtain ⟨rb, hrb⟩ : ∃ rb, rightB l = rb := ⟨_, rfl⟩
      rw [hrb] at HRO HRR
      clear hrs hrb
      have HSP : Hid (∀ p ∈ l ++ [(⟨pid, pfs, pA, pc⟩ : Pt)], p.fs.length ≤ 1000000) := Lib.hid (fun p hp => by
        rcases List.mem_append.1 hp with h | h
        · have := HF.out p h; omega
        · rw [List.mem_singleton.1 h]; dsimp only; omega)
      by_cases hr0 : r = 0
      · subst hr0
        obtain ⟨A5, c5, l5, rfl, hs5, ho5⟩ := HV1.out rfl
        obtain ⟨A6, c6, rfl, hr6⟩ := HY1.out rfl
        have hl5 : l5.length = n + 1 := by rw [hs5.1, List.length_append, hL1.out]; rfl
        obtain ⟨N, hN⟩ : ∃ N, n + 1 = N := ⟨_, rfl⟩
        have hNn : N ≤ 21 := by omega
        have hN1 : 1 ≤ N := by omega
        rw [hN] at hl5 ⊢
        have HN := Lib.hid hN
        have HL5 := Lib.hid hl5
        have HO5 := Lib.hid ho5
        have HR6 := Lib.hid hr6
        have HS5 : Hid (sameP l5 (l ++ [⟨pid, pfs, pA, pc⟩])) := Lib.hid (sameP_trans hs5 (sameP_snoc HS1.out HQI.out HQF.out))
        have hll : (l ++ [(⟨pid, pfs, pA, pc⟩ : Pt)]).length = N := by rw [List.length_append, HLN.out]; exact hN
        have HLL := Lib.hid hll
        have h5f : ∀ p ∈ l5, p.fs.length ≤ 1000000 := fun p hp => by
          obtain ⟨p', hp', _, e⟩ := sameP_mem HS5.out hp
          rw [e]
          exact HSP.out p' hp'
        have H5F := Lib.hid h5f
        clear hs5 ho5 hr6 hl5 hN hll h5f
        go_wp2_with ((go_at_call 15; refine Hid.out ?_))
        refine Lib.hid ?_
        refine (same_same A5 A6 N c5 c6 l5 (l ++ [⟨pid, pfs, pA, pc⟩]) w6 HL5.out HLL.out (by omega) H5F.out ((HO5.out.rd.below HB56.out).more hz6 (Nat.le_refl _)) HR6.out).mono ?_
        rintro e w7 ⟨rfl, hb7⟩
        rw [eqP_t HS5.out]
        have HB67 := Lib.hid hb7
        have hz7 := hb7.size
        clear hb7
        go_wp2_with ((go_at_call 16; refine Hid.out ?_))
        refine Lib.hid ?_
        refine (HRO.out w7 (HB45.out.trans ((HB56.out.trans (HB67.out.mono hz6)).mono hz5))).mono ?_
        rintro e w8 ⟨rfl, hb8⟩
        have HB78 := Lib.hid hb8
        have hz8 := hb8.size
        clear hb8
        go_wp2_with ((go_at_call 17; refine Hid.out ?_))
        refine Lib.hid ?_
        refine (HRR.out w8 (HB6.out.trans ((HB67.out.trans (HB78.out.mono hz7)).mono HB6.out.size))).mono ?_
        rintro e w9 ⟨rfl, hb9⟩
        have HB89 := Lib.hid hb9
        have hz9 := hb9.size
        have HB59 := Lib.hid (show Below w5.heap.size w5 w9 from HB56.out.trans ((HB67.out.trans ((HB78.out.trans (hb9.mono hz8)).mono hz7)).mono hz6))
        have HB49 := Lib.hid (show Below w4.heap.size w4 w9 from HB45.out.trans (HB59.out.mono hz5))
        clear hb9
        obtain ⟨g5, rfl, hBg5, hrw5, hfr5⟩ := HO5.out (by rw [HL5.out]; omega)
        have HRW9 := Lib.hid (hrw5.kw (S := fun _ => False) (Kw.ofBelow HB59.out) (fun h => h))
        have HCL9 := Lib.hid ((Clr.of_own hfr5).kw (S := fun _ => False) (Kw.ofBelow HB59.out) (fun _ _ h => h))
        rw [HL5.out] at HRW9
        have HK9 : Hid (Kw (fun b => w4.heap.size ≤ b) w4 w9) := Lib.hid (Kw.ofBelow HB49.out)
        clear hrw5 hfr5
        go_wp2_with (fail)
        go_loopw [11] (fun vi wr => ∃ i : Nat, i ≤ N ∧ vi = .int .i64 i ∧ Kw (fun b => w4.heap.size ≤ b) w4 wr ∧ RowP wr g5 N (fun i => l5.getD i zeroP) ∧ Clr wr w4.heap.size g5 l5) (fun i _ => N - (intOf i).toNat)
        case atStart => exact ⟨0, Nat.zero_le _, rfl, HK9.out, HRW9.out, HCL9.out⟩
        case round =>
          obtain ⟨i, hiN, rfl, hkw, hrw, hcl⟩ := hrel
          have HKW := Lib.hid hkw
          have HRW := Lib.hid hrw
          have HCL := Lib.hid hcl
          have hwz := hkw.size
          clear hkw hrw hcl
          obtain ⟨wt, hwt⟩ : ∃ wt, wt = wr := ⟨_, rfl⟩
          subst hwt
          by_cases hi : i < N
          · have hi0 : (0 : Int) ≤ (i : Int) := by omega
            have hi1 : (i : Int) < (N : Int) := by omega
            have hpm : l5.getD i zeroP ∈ l5 := getP_mem (by rw [HL5.out]; exact hi)
            have hpf := H5F.out _ hpm
            obtain ⟨_, a1, _⟩ := HRW.out.2 i hi
            have hgl := HRW.out.1
            obtain ⟨m, hm⟩ : ∃ m, (l5.getD i zeroP).fs.length = m := ⟨_, rfl⟩
            rw [hm] at a1 hpf
            have HM := Lib.hid hm
            have HPM := Lib.hid hpm
            obtain ⟨PA, hPA⟩ : ∃ PA, (l5.getD i zeroP).A = PA := ⟨_, rfl⟩
            obtain ⟨PC, hPC⟩ : ∃ PC, (l5.getD i zeroP).c = PC := ⟨_, rfl⟩
            rw [hPA, hPC] at a1
            have HPA := Lib.hid hPA
            have HPC' := Lib.hid hPC
            clear hm hpm hPA hPC
            go_wp2_with (fail)
            go_loopw [12] (fun vk wr => ∃ k : Nat, k ≤ m ∧ vk = .int .i64 k ∧ Kw (fun b => w4.heap.size ≤ b) w4 wr ∧ RowP wr g5 N (fun i => l5.getD i zeroP) ∧ Clr wr w4.heap.size g5 l5) (fun k _ => m - (intOf k).toNat)
            case atStart => exact ⟨0, Nat.zero_le _, rfl, HKW.out, HRW.out, HCL.out⟩
            case round =>
              obtain ⟨k, hkm, rfl, hkw, hrw, hcl⟩ := hrel
              have HKW := Lib.hid hkw
              have HRW := Lib.hid hrw
              have HCL := Lib.hid hcl
              have hwz := hkw.size
              clear hkw hrw hcl a1 hgl
              obtain ⟨_, a1, _⟩ := HRW.out.2 i hi
              have hgl := HRW.out.1
              rw [HM.out, HPA.out, HPC'.out] at a1
              by_cases hk : k < m
              · have hk0 : (0 : Int) ≤ (k : Int) := by omega
                have hk1 : (k : Int) < (m : Int) := by omega
                obtain ⟨bb, hbe, hbB, hbg, hbl, hlv⟩ := HCL.out _ HPM.out (by rw [HM.out]; omega)
                rw [HPA.out] at hbe
                subst hbe
                rw [HM.out] at hlv
                obtain ⟨u0, y0, z0⟩ := hlv (k * 4) (by omega)
                obtain ⟨u1, y1, z1⟩ := hlv (k * 4 + 1) (by omega)
                obtain ⟨u2, y2, z2⟩ := hlv (k * 4 + 2) (by omega)
                obtain ⟨u3, y3, z3⟩ := hlv (k * 4 + 3) (by omega)
                clear hlv
                have HKS := Lib.hid ((((HKW.out.setCell (p := ⟨bb, k * 4, none⟩) hbB (.int .u64 0)).setCell (p := ⟨bb, k * 4 + 1, none⟩) hbB (.int .i64 0)).setCell (p := ⟨bb, k * 4 + 2, none⟩) hbB (.int .u32 0)).setCell (p := ⟨bb, k * 4 + 3, none⟩) hbB (.int .u64 0))
                have HRS := Lib.hid (HRW.out.kw ((((Kw.setCell (S := fun b => b = bb) (Kw.refl _ _) (p := ⟨bb, k * 4, none⟩) rfl (.int .u64 0)).setCell (p := ⟨bb, k * 4 + 1, none⟩) rfl (.int .i64 0)).setCell (p := ⟨bb, k * 4 + 2, none⟩) rfl (.int .u32 0)).setCell (p := ⟨bb, k * 4 + 3, none⟩) rfl (.int .u64 0)) (fun e => hbg e.symm))
                have HCS := Lib.hid ((((HCL.out.set bb (k * 4) (.int .u64 0)).set bb (k * 4 + 1) (.int .i64 0)).set bb (k * 4 + 2) (.int .u32 0)).set bb (k * 4 + 3) (.int .u64 0))
                go_wp2_with (fail)
                go_roundw
                case rel => exact ⟨k + 1, by omega, by first | rfl | (push_cast; rfl) | go_num, HKS.out, HRS.out, HCS.out⟩
                case measure => simp [intOf]; omega
              · have hke : m = k := by omega
                subst hke
                have hirr : ¬ (m : Int) < (m : Int) := by omega
                go_wp2_with (fail)
                go_roundw
                case rel => exact ⟨i + 1, by omega, by first | rfl | (push_cast; rfl) | go_num, HKW.out, HRW.out, HCL.out⟩
                case measure => simp [intOf]; omega
          · have hine : N = i := by omega
            subst hine
            have hirr : ¬ (N : Int) < (N : Int) := by omega
            have HKZ : Hid (Kw (fun b => w4.heap.size ≤ b) w4 wt) := HKW
            have hxl4 : W.heap.size < w4.heap.size := by omega
            have hW4 : W.heap.size ≤ w4.heap.size := by omega
            have hzz := HKZ.out.size
            have hz1 : Hid (∀ b, b < w4.heap.size → ¬ w4.heap.size ≤ b) := Lib.hid (fun b h => by omega)
            have HL1Z := Lib.hid ((HR1.out.kw HKZ.out hz1.out).more hzz (Nat.le_refl _))
            have HL2Z := Lib.hid ((HR2.out.kw HKZ.out hz1.out).more hzz (Nat.le_refl _))
            have HLZ := Lib.hid (((HA.out.below HB4.out).kw HKZ.out (fun b h => by omega)).more (Nat.le_trans hW4 hzz) (Nat.le_refl _))
            have HM1Z := Lib.hid ((HKZ.out.cell hg14 (hz1.out _ hg14)).trans HM1.out)
            have HM2Z := Lib.hid ((HKZ.out.cell hg2' (hz1.out _ hg2')).trans HM2.out)
            have HPPZ : Hid (BoxP wt W.heap.size ⟨pid, pfs, pA, pc⟩) := Lib.hid ((HKZ.out.block _ hxl4 (hz1.out _ hxl4)).trans HP4.out)
            have HBZ := Lib.hid (HB4.out.trans (HKZ.out.below (B := W.heap.size) hW4 (fun b h => by omega)))
            have hf1 : ∀ p ∈ L1, p.fs.length ≤ 1000000 := fun p hp => by
              obtain ⟨p', hp', _, e⟩ := sameP_mem HS1.out hp
              rw [e]
              have := HF.out p' hp'
              omega
            have HF1 := Lib.hid hf1
            have hg1Z : g1 < (wt).heap.size := by omega
            have hg2Z : g2 < (wt).heap.size := by omega
            clear hf1
            go_wp2_with ((go_at_call 18; refine Hid.out ?_))
            refine Lib.hid ?_
            refine (kept_any g1 c1 A c n L1 l wt hL1.out HLN.out (by omega) HF1.out hc1 HL1Z.out HLZ.out hg1Z HM1Z.out).mono ?_
            rintro e wk ⟨rfl, hbk⟩
            rw [eqP_t HS1.out]
            have HBK := Lib.hid hbk
            have hzk := hbk.size
            obtain ⟨x0, x1⟩ := (HPPZ.out.kw hbk HPPZ.out.lt).cells
            dsimp only at x0 x1
            have hxlk : W.heap.size < wk.heap.size := by omega
            clear hbk
            go_wp2_with ((go_at_call 18; refine Hid.out ?_))
            refine Lib.hid ?_
            have hbM := bl_alloc (Below.refl wk.heap.size wk) (Obj.cells #[.int .u64 pid, .slice pA pfs.length pc] 26)
            have h2 := two_new wk (.int .u64 pid) (.slice pA pfs.length pc) 26
            have hzM : (wk.alloc (Obj.cells #[.int .u64 pid, .slice pA pfs.length pc] 26)).heap.size = wk.heap.size + 1 := by simp
            generalize (wk.alloc (Obj.cells #[.int .u64 pid, .slice pA pfs.length pc] 26)) = wm at *
            have HBKM := Lib.hid (HBK.out.trans (hbM.mono hzk))
            have HBM := Lib.hid (HBZ.out.trans (HBKM.out.mono HBZ.out.size))
            have hRP : RdP wm wm.heap.size (some ⟨wk.heap.size, 0, none⟩) [⟨pid, pfs, pA, pc⟩] := by
              refine ⟨fun _ => ⟨wk.heap.size, 0, rfl, by omega, Nat.le_refl _, fun i hi => ?_⟩, fun q hq => ?_⟩
              · have hi0 : i = 0 := by simpa using hi
                subst hi0
                exact ⟨h2.1, h2.2⟩
              · rw [List.mem_singleton.1 hq]
                exact ⟨(HPR.out.below HBM.out).more HBM.out.size (Nat.le_refl _), HPC.out⟩
            have HRP := Lib.hid hRP
            clear hRP h2 hbM
            refine (kept_any g2 c2 (some ⟨wk.heap.size, 0, none⟩) 1 1 [q] [⟨pid, pfs, pA, pc⟩] wm rfl rfl (by omega) (fun p hp => by rw [List.mem_singleton.1 hp, HQF.out]; omega) hc2 ((HL2Z.out.below HBKM.out).more HBKM.out.size (Nat.le_refl _)) HRP.out (by omega) ((HBKM.out.cell (p := ⟨g2, 1 * 2, none⟩) hg2Z).trans HM2Z.out)).mono ?_
            rintro e wn ⟨rfl, hbn⟩
            rw [eqP_t HS2.out]
            have HBN := Lib.hid (HBM.out.trans (hbn.mono HBM.out.size))
            clear hbn
            go_wp2_with (go_at_call 11; refine (awake_any _).mono ?_; rintro e wo ⟨rfl, hbo⟩)
            go_ret
            exact ⟨rfl, HBN.out.trans (hbo.mono HBN.out.size)⟩
      · have hv := HV0.out hr0
        have hv2 := HY0.out hr0
        subst hv hv2
        clear hr0
        go_wp2_with ((go_at_call 15; refine Hid.out ?_))
        refine Lib.hid ?_
        refine (same_any none none 0 0 [] [] w6 (by simp) (by simp) ⟨fun h => by simp at h, by simp⟩ ⟨fun h => by simp at h, by simp⟩).mono ?_
        rintro e w7 ⟨rfl, hb7⟩
        rw [eqP_t (sameP_refl [])]
        have HB67 := Lib.hid hb7
        have hz7 := hb7.size
        clear hb7
        go_wp2_with ((go_at_call 16; refine Hid.out ?_))
        refine Lib.hid ?_
        refine (HRO.out w7 (HB45.out.trans ((HB56.out.trans (HB67.out.mono hz6)).mono hz5))).mono ?_
        rintro e w8 ⟨rfl, hb8⟩
        have HB78 := Lib.hid hb8
        have hz8 := hb8.size
        clear hb8
        go_wp2_with ((go_at_call 17; refine Hid.out ?_))
        refine Lib.hid ?_
        refine (HRR.out w8 (HB6.out.trans ((HB67.out.trans (HB78.out.mono hz7)).mono HB6.out.size))).mono ?_
        rintro e w9 ⟨rfl, hb9⟩
        have HB89 := Lib.hid hb9
        have hz9 := hb9.size
        have HB59 := Lib.hid (show Below w5.heap.size w5 w9 from HB56.out.trans ((HB67.out.trans ((HB78.out.trans (hb9.mono hz8)).mono hz7)).mono hz6))
        have HB49 := Lib.hid (show Below w4.heap.size w4 w9 from HB45.out.trans (HB59.out.mono hz5))
        clear hb9
        have HKZ : Hid (Kw (fun b => w4.heap.size ≤ b) w4 w9) := Lib.hid (Kw.ofBelow HB49.out)
        go_wp2_with (fail)
        go_loopw [11] (fun vi wr => vi = .int .i64 0 ∧ w9 = wr) (fun _ _ => 0)
        case atStart => exact ⟨rfl, rfl⟩
        case round =>
          obtain ⟨rfl, rfl⟩ := hrel
          have hxl4 : W.heap.size < w4.heap.size := by omega
          have hW4 : W.heap.size ≤ w4.heap.size := by omega
          have hzz := HKZ.out.size
          have hz1 : Hid (∀ b, b < w4.heap.size → ¬ w4.heap.size ≤ b) := Lib.hid (fun b h => by omega)
          have HL1Z := Lib.hid ((HR1.out.kw HKZ.out hz1.out).more hzz (Nat.le_refl _))
          have HL2Z := Lib.hid ((HR2.out.kw HKZ.out hz1.out).more hzz (Nat.le_refl _))
          have HLZ := Lib.hid (((HA.out.below HB4.out).kw HKZ.out (fun b h => by omega)).more (Nat.le_trans hW4 hzz) (Nat.le_refl _))
          have HM1Z := Lib.hid ((HKZ.out.cell hg14 (hz1.out _ hg14)).trans HM1.out)
          have HM2Z := Lib.hid ((HKZ.out.cell hg2' (hz1.out _ hg2')).trans HM2.out)
          have HPPZ : Hid (BoxP w9 W.heap.size ⟨pid, pfs, pA, pc⟩) := Lib.hid ((HKZ.out.block _ hxl4 (hz1.out _ hxl4)).trans HP4.out)
          have HBZ := Lib.hid (HB4.out.trans (HKZ.out.below (B := W.heap.size) hW4 (fun b h => by omega)))
          have hf1 : ∀ p ∈ L1, p.fs.length ≤ 1000000 := fun p hp => by
            obtain ⟨p', hp', _, e⟩ := sameP_mem HS1.out hp
            rw [e]
            have := HF.out p' hp'
            omega
          have HF1 := Lib.hid hf1
          have hg1Z : g1 < (w9).heap.size := by omega
          have hg2Z : g2 < (w9).heap.size := by omega
          clear hf1
          go_wp2_with ((go_at_call 18; refine Hid.out ?_))
          refine Lib.hid ?_
          refine (kept_any g1 c1 A c n L1 l w9 hL1.out HLN.out (by omega) HF1.out hc1 HL1Z.out HLZ.out hg1Z HM1Z.out).mono ?_
          rintro e wk ⟨rfl, hbk⟩
          rw [eqP_t HS1.out]
          have HBK := Lib.hid hbk
          have hzk := hbk.size
          obtain ⟨x0, x1⟩ := (HPPZ.out.kw hbk HPPZ.out.lt).cells
          dsimp only at x0 x1
          have hxlk : W.heap.size < wk.heap.size := by omega
          clear hbk
          go_wp2_with ((go_at_call 18; refine Hid.out ?_))
          refine Lib.hid ?_
          have hbM := bl_alloc (Below.refl wk.heap.size wk) (Obj.cells #[.int .u64 pid, .slice pA pfs.length pc] 26)
          have h2 := two_new wk (.int .u64 pid) (.slice pA pfs.length pc) 26
          have hzM : (wk.alloc (Obj.cells #[.int .u64 pid, .slice pA pfs.length pc] 26)).heap.size = wk.heap.size + 1 := by simp
          generalize (wk.alloc (Obj.cells #[.int .u64 pid, .slice pA pfs.length pc] 26)) = wm at *
          have HBKM := Lib.hid (HBK.out.trans (hbM.mono hzk))
          have HBM := Lib.hid (HBZ.out.trans (HBKM.out.mono HBZ.out.size))
          have hRP : RdP wm wm.heap.size (some ⟨wk.heap.size, 0, none⟩) [⟨pid, pfs, pA, pc⟩] := by
            refine ⟨fun _ => ⟨wk.heap.size, 0, rfl, by omega, Nat.le_refl _, fun i hi => ?_⟩, fun q hq => ?_⟩
            · have hi0 : i = 0 := by simpa using hi
              subst hi0
              exact ⟨h2.1, h2.2⟩
            · rw [List.mem_singleton.1 hq]
              exact ⟨(HPR.out.below HBM.out).more HBM.out.size (Nat.le_refl _), HPC.out⟩
          have HRP := Lib.hid hRP
          clear hRP h2 hbM
          refine (kept_any g2 c2 (some ⟨wk.heap.size, 0, none⟩) 1 1 [q] [⟨pid, pfs, pA, pc⟩] wm rfl rfl (by omega) (fun p hp => by rw [List.mem_singleton.1 hp, HQF.out]; omega) hc2 ((HL2Z.out.below HBKM.out).more HBKM.out.size (Nat.le_refl _)) HRP.out (by omega) ((HBKM.out.cell (p := ⟨g2, 1 * 2, none⟩) hg2Z).trans HM2Z.out)).mono ?_
          rintro e wn ⟨rfl, hbn⟩
          rw [eqP_t HS2.out]
          have HBN := Lib.hid (HBM.out.trans (hbn.mono HBM.out.size))
          clear hbn
          go_wp2_with (go_at_call 11; refine (awake_any _).mono ?_; rintro e wo ⟨rfl, hbo⟩)
          go_ret
          exact ⟨rfl, HBN.out.trans (hbo.mono HBN.out.size)⟩
    · have h3i : (300 : Int) < (pfs.length : Int) := by omega
      go_wp2_with (go_at_call 11; refine (awake_any _).mono ?_; rintro e w3 ⟨rfl, hb3⟩)
      go_ret
      exact ⟨rfl, HB1.out.trans (hb3.mono (by omega))⟩
end Go.Proofs.Ytmalcekbhnkfgaa
namespace Go.Proofs.Ytmalcekbhnkfgaa
open Go.RowKit Go.Maps
set_option linter.unusedVariables false
set_option linter.unusedSimpArgs false

theorem add_walk (A : Option Addr) (c : Nat) (l : List Pt) (q : Pt) (W : World) (o : RdP W W.heap.size A l ∧ l.length ≤ c ∧ l.length ≤ maxLen ∧ (A = none → c = 0) ∧ okA l)
    (k : RdS W W.heap.size q.A q.fs ∧ q.fs.length ≤ q.c ∧ (q.A = none → q.c = 0)) :
    Calls Try.prog 3 #[.slice A l.length c, ptV q] W fun e w' => e = .returned (.bool true) ∧ Below W.heap.size W w' :=
  sadd_small A l.length c l q W rfl o.1 o.2.2.2.1 o.2.2.2.2 k.1 k.2.1 k.2.2
end Go.Proofs.Ytmalcekbhnkfgaa
