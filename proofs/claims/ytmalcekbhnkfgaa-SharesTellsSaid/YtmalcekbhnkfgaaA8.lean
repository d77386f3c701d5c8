/- The map of files by their numbers; which points are right. Conditions: as each theorem states them. -/
import Derived.Test.YtmalcekbhnkfgaaA3
import Derived.Maps.OwnIn
import Derived.Maps.AppendAt
namespace Go.Proofs.Ytmalcekbhnkfgaa
open Go.RowKit Go.Maps Go.Shelf
set_option linter.unusedVariables false
set_option linter.unusedSimpArgs false

def encS (f : Sh) : DataW Unit := .agg [.lit (.int .u64 f.tb), .lit (.int .i64 f.sz), .lit (.int .u32 f.sm), .lit (.int .u64 f.nm)]
theorem shV_inj {f g : Sh} (h : shV f = shV g) : f = g := by
  obtain ⟨a, b, c, d, _, _, _, _⟩ := f
  obtain ⟨a', b', c', d', _, _, _, _⟩ := g
  simp [shV] at h
  obtain ⟨rfl, rfl, rfl, rfl⟩ := h
  rfl
theorem encS_inj {f g : Sh} (h : encS f = encS g) : f = g := by
  obtain ⟨a, b, c, d, _, _, _, _⟩ := f
  obtain ⟨a', b', c', d', _, _, _, _⟩ := g
  simp [encS] at h
  obtain ⟨rfl, rfl, rfl, rfl⟩ := h
  rfl
open Classical in
/-- How a file reads as an element. -/
noncomputable def RS (v : Value) : Option (DataW Unit × List MemPlace) := if h : ∃ f : Sh, v = shV f then some (encS (Classical.choose h), []) else none
theorem RS_mk (f : Sh) : RS (shV f) = some (encS f, []) := by
  have hex : ∃ g : Sh, shV f = shV g := ⟨f, rfl⟩
  unfold RS
  rw [dif_pos hex, ← shV_inj (Classical.choose_spec hex)]
theorem RS_inv {v : Value} {f : Sh} {ps : List MemPlace} (h : RS v = some (encS f, ps)) : v = shV f := by
  unfold RS at h
  split at h
  · rename_i hex
    simp only [Option.some.injEq, Prod.mk.injEq] at h
    have h2 := Classical.choose_spec hex
    rw [encS_inj h.1] at h2
    exact h2
  · cases h
theorem u61 : Try.prog.underlying 61 = some (.map 23 36) := by kernel_rfl
theorem zero36 (w : World) : (zeroValue 36).run Try.prog w = .ok (shV zeroS) w := by kernel_rfl
/-- Block b is a map of the files of L, by their numbers. -/
def FstAt (w : World) (b : Nat) (L : List Sh) : Prop :=
  ∃ D : DataW Unit, w.ownsMap Try.prog 23 RS b L.length D ∧ (∀ f ∈ L, has D (.int .u64 f.nm) = true ∧ ∃ g ∈ L, g.nm = f.nm ∧ ∀ z, D.atKey (.int .u64 f.nm) z = encS g) ∧ ∀ x, (Lit.int .u64 x).wf = true → (∀ f ∈ L, f.nm ≠ x) → has D (.int .u64 x) = false
theorem FstAt.lt {w : World} {b : Nat} {L : List Sh} (h : FstAt w b L) : b < w.heap.size := by obtain ⟨D, h1, _⟩ := h; exact h1.lt
theorem FstAt.made (w : World) : FstAt (w.alloc (.map #[] 0)) w.heap.size [] := ⟨.map [], World.ownsMap_made w _ _ _, by simp, fun x _ _ => rfl⟩
theorem FstAt.grown {w w' : World} {row : Option Nat} {b : Nat} {L : List Sh} (h : FstAt w b L) (g : w.grownBy w' row) (hb : some b ≠ row) : FstAt w' b L := by
  obtain ⟨D, ho, h1⟩ := h
  have hlt := ho.lt
  obtain ⟨es, clock, hb', F, hs, hD⟩ := ho
  exact ⟨D, ⟨es, clock, (g.block b hlt hb).trans hb', F, hs, hD⟩, h1⟩
theorem FstAt.below {w w' : World} {B b : Nat} {L : List Sh} (h : FstAt w b L) (k : Below B w w') (hb : b < B) : FstAt w' b L := by
  obtain ⟨D, ho, h1⟩ := h
  obtain ⟨es, clock, hb', F, hs, hD⟩ := ho
  exact ⟨D, ⟨es, clock, (k.block b hb).trans hb', F, hs, hD⟩, h1⟩
/-- No two of them have one number, and are not the same. -/
def noClash (L : List Sh) : Prop := ∀ f ∈ L, ∀ g ∈ L, f.nm = g.nm → f = g
theorem FstAt.look_some {w : World} {b : Nat} {L : List Sh} (h : FstAt w b L) (hn : noClash L) {f : Sh} (hf : f ∈ L) :
    (Instr.lookup 61 (.map (some b)) (.int .u64 f.nm) true).run Try.prog w = .ok (.tuple #[shV f, .bool true]) w := by
  obtain ⟨D, ho, h1, h2⟩ := h
  obtain ⟨v, ps, hrun, hv⟩ := ho.look_ok K23 u61 (zero36 w) (RS_mk zeroS) (key23 f.wn)
  obtain ⟨hh, g, hg, hgf, hat⟩ := h1 f hf
  obtain rfl := hn g hg f hf hgf
  rw [hat] at hv
  rw [hrun, RS_inv hv, hh]
theorem FstAt.look_none {w : World} {b : Nat} {L : List Sh} (h : FstAt w b L) {x : Int} (hx : (Lit.int .u64 x).wf = true) (hn : ∀ f ∈ L, f.nm ≠ x) :
    (Instr.lookup 61 (.map (some b)) (.int .u64 x) true).run Try.prog w = .ok (.tuple #[shV zeroS, .bool false]) w := by
  obtain ⟨D, ho, h1, h2⟩ := h
  obtain ⟨v, ps, hrun, hv⟩ := ho.look_ok K23 u61 (zero36 w) (RS_mk zeroS) (key23 hx)
  have hh := h2 x hx hn
  rw [atKey_of_not_has hh] at hv
  rw [hrun, RS_inv hv, hh]
theorem FstAt.store {w : World} {b : Nat} {L : List Sh} (h : FstAt w b L) (f : Sh) (hL : L.length < 1000000) :
    ∃ w', (Instr.mapUpdate 61 (.map (some b)) (.int .u64 f.nm) (shV f)).run Try.prog w = .ok () w' ∧ FstAt w' b (L ++ [f]) ∧ w.grownBy w' (some b) := by
  obtain ⟨D, ho, h1, h2⟩ := h
  obtain ⟨w', hrun, r1, r2⟩ := ho.update K23 u61 (by unfold maxLen; omega) (key23 f.wn) (RS_mk f)
  have hD := ho.isMap
  have hk : WideAt.IsKeyLit (.int .u64 f.nm) := K23.key (key23 f.wn)
  refine ⟨w', hrun, ⟨_, by rw [List.length_append]; exact r1, fun g hg => ?_, fun x hx hn => ?_⟩, r2⟩
  · by_cases hgf : g.nm = f.nm
    · rw [hgf, has_put_same hD hk]
      exact ⟨rfl, f, by simp, rfl, fun z => atKey_put_same hD hk _ z⟩
    · have hne : (Lit.int .u64 g.nm) ≠ (Lit.int .u64 f.nm) := by simp [hgf]
      have hgL : g ∈ L := by
        rcases List.mem_append.1 hg with h | h
        · exact h
        · exact absurd (by rw [List.mem_singleton.1 h]) hgf
      obtain ⟨a1, g', a2, a3, a4⟩ := h1 g hgL
      rw [has_put_other hne]
      exact ⟨a1, g', List.mem_append_left _ a2, a3, fun z => by rw [atKey_put_other hne]; exact a4 z⟩
  · have hne : (Lit.int .u64 x) ≠ (Lit.int .u64 f.nm) := by
      have := hn f (by simp)
      simp only [ne_eq, Lit.int.injEq, true_and]
      exact fun e => this e.symm
    rw [has_put_other hne]
    exact h2 x hx (fun g hg => hn g (List.mem_append_left _ hg))
theorem noClash_snoc {L : List Sh} {f : Sh} : noClash (L ++ [f]) ↔ noClash L ∧ ∀ g ∈ L, g.nm = f.nm → g = f := by
  unfold noClash
  constructor
  · intro h
    exact ⟨fun g hg g' hg' e => h g (List.mem_append_left _ hg) g' (List.mem_append_left _ hg') e, fun g hg e => h g (List.mem_append_left _ hg) f (by simp) e⟩
  · rintro ⟨h1, h2⟩ g hg g' hg' e
    rcases List.mem_append.1 hg with hg | hg
    · rcases List.mem_append.1 hg' with hg' | hg'
      · exact h1 g hg g' hg' e
      · have e' := List.mem_singleton.1 hg'
        rw [e'] at e ⊢
        exact h2 g hg e
    · have e2 := List.mem_singleton.1 hg
      rcases List.mem_append.1 hg' with hg' | hg'
      · rw [e2] at e ⊢
        exact (h2 g' hg' e.symm).symm
      · rw [e2, List.mem_singleton.1 hg']
/-! Which points are right. -/
def allF (l : List Pt) : List Sh := (flat 0 l).map Prod.snd
def idsUp (l : List Pt) : Prop := l.Pairwise (fun p q => p.id < q.id)
def RightP (l : List Pt) : Prop := l.length ≤ 16 ∧ (∀ p ∈ l, mayP p) ∧ idsUp l ∧ noClash (allF l)
open Classical in
noncomputable def rightB (l : List Pt) : Bool := decide (RightP l)
theorem rightB_t {l : List Pt} (h : RightP l) : rightB l = true := by simp [rightB, h]
theorem rightB_f {l : List Pt} (h : ¬ RightP l) : rightB l = false := by simp [rightB, h]
theorem idsUp_snoc {l : List Pt} {i : Nat} (hi : i < l.length) (h : idsUp (l.take i)) : idsUp (l.take (i + 1)) ↔ (0 < i → (l.getD (i - 1) zeroP).id < (l.getD i zeroP).id) := by
  have hget : ∀ j, j < i → (hj : j < l.length) → l[j] ∈ l.take i := fun j hj hjl => List.mem_take_iff_getElem.2 ⟨j, by omega, rfl⟩
  unfold idsUp at *
  rw [take_snocP hi, List.pairwise_append]
  constructor
  · rintro ⟨_, _, h3⟩ h0
    rw [getP (show i - 1 < l.length by omega)]
    exact h3 _ (hget (i - 1) (by omega) (by omega)) _ (by simp)
  · intro h1
    refine ⟨h, by simp, fun a ha b hb => ?_⟩
    obtain rfl := List.mem_singleton.1 hb
    obtain ⟨j, hj, rfl⟩ := List.mem_take_iff_getElem.1 ha
    have h2 := h1 (by omega)
    by_cases hji : j = i - 1
    · subst hji
      rw [getP (show i - 1 < l.length by omega)] at h2
      exact h2
    · have h4 := List.pairwise_iff_getElem.1 h j (i - 1) (by rw [List.length_take]; omega) (by rw [List.length_take]; omega) (by omega)
      simp only [List.getElem_take] at h4
      rw [getP (show i - 1 < l.length by omega)] at h2
      exact Int.lt_trans h4 h2
theorem idsUp.take {l : List Pt} (h : idsUp l) (k : Nat) : idsUp (l.take k) := h.sublist (List.take_sublist _ _)
theorem flat_length_le (k : Nat) (l : List Pt) (h : ∀ p ∈ l, p.fs.length ≤ 256) : (flat k l).length ≤ l.length * 256 := by
  induction l generalizing k with
  | nil => simp [flat]
  | cons p l ih =>
    have h1 := ih (k + 1) (fun q hq => h q (List.mem_cons_of_mem _ hq))
    have h2 := h p (by simp)
    simp only [flat, List.length_append, List.length_map, List.length_cons]
    omega
end Go.Proofs.Ytmalcekbhnkfgaa
namespace Go.Proofs.Ytmalcekbhnkfgaa
open Go.RowKit Go.Maps Go.Shelf
set_option linter.unusedVariables false
set_option linter.unusedSimpArgs false
attribute [local go_sem] Oper.semAt_some

set_option maxRecDepth 100000 in
set_option maxHeartbeats 4000000 in
theorem right_many (A : Option Addr) (n c : Nat) (l : List Pt) (w : World) (hl : l.length = n) (hn : 16 < n) :
    Calls Try.prog 16 #[.slice A n c] w fun e w' => e = .returned (.bool (rightB l)) ∧ Below w.heap.size w w' := by
  have hr : rightB l = false := rightB_f (fun h => by have := h.1; omega)
  rw [hr]
  have hde : (16 : Int) < (n : Int) := by omega
  clear hl hr hn
  refine (callsIn_wide (n := 10)).1 ?_
  refine callsIn_of_wp_marks Try.func16 rfl trivial ?_ rfl
  refine wpIn_wide.2 ?_
  simp only [Try.ntmps16, List.size_toArray, List.length_cons, List.length_nil, Nat.reduceAdd, Nat.reduceSub, Array.replicate_succ, Array.replicate_zero, List.push_toArray, List.append_toArray, List.nil_append, List.cons_append]
  go_wp2_with (fail)
  have hcell : (w.alloc (Obj.cells #[Value.bool false] 4)).cell? ⟨w.heap.size, 0, none⟩ = some (.bool false) := by go_keep
  exact ⟨.bool false, by simp [results, Try.f16, go_sem, hcell], rfl, bl_alloc (Below.refl _ _) _⟩
theorem sh_parts {f g : Sh} (h : ¬ f = g) (hn : f.nm = g.nm) : ¬ f.tb = g.tb ∨ (f.tb = g.tb ∧ ¬ f.sz = g.sz) ∨ (f.tb = g.tb ∧ f.sz = g.sz ∧ ¬ f.sm = g.sm) := by
  obtain ⟨a, b, c, d, _, _, _, _⟩ := f
  obtain ⟨a', b', c', d', _, _, _, _⟩ := g
  dsimp only at *
  by_cases h1 : a = a'
  · by_cases h2 : b = b'
    · by_cases h3 : c = c'
      · subst h1 h2 h3 hn
        exact absurd rfl h
      · exact .inr (.inr ⟨h1, h2, h3⟩)
    · exact .inr (.inl ⟨h1, h2⟩)
  · exact .inl h1
/-- A file in a block of its own. -/
def BoxS (W : World) (B : Nat) (f : Sh) : Prop := W.heap[B]? = some (Obj.cells #[.int .u64 f.tb, .int .i64 f.sz, .int .u32 f.sm, .int .u64 f.nm] 36)
theorem BoxS.lt {W : World} {B : Nat} {f : Sh} (h : BoxS W B f) : B < W.heap.size := (Array.getElem?_eq_some_iff.1 h).1
theorem BoxS.new (W : World) (f : Sh) : BoxS (W.alloc (Obj.cells #[.int .u64 f.tb, .int .i64 f.sz, .int .u32 f.sm, .int .u64 f.nm] 36)) W.heap.size f := World.alloc_heap_new W _
theorem BoxS.grown {W W' : World} {row : Option Nat} {B : Nat} {f : Sh} (h : BoxS W B f) (hg : W.grownBy W' row) (hne : some B ≠ row) : BoxS W' B f := (hg.block B h.lt hne).trans h
theorem BoxS.own {W W' : World} {row : Option Nat} {B : Nat} {f : Sh} (h : BoxS W B f) (hg : W.grownBy W' row) (hr : ∀ r, row = some r → ∃ o : Obj, W.heap[r]? = some o ∧ o.isCells = false) : BoxS W' B f :=
  h.grown hg (fun e => by
    obtain ⟨o, ho, hc⟩ := hr B e.symm
    rw [show W.heap[B]? = _ from h] at ho
    cases ho
    cases hc)
theorem BoxS.cells {W : World} {B : Nat} {f : Sh} (h : BoxS W B f) : W.cell? ⟨B, 0, none⟩ = some (.int .u64 f.tb) ∧ W.cell? ⟨B, 1, none⟩ = some (.int .i64 f.sz) ∧ W.cell? ⟨B, 2, none⟩ = some (.int .u32 f.sm) ∧ W.cell? ⟨B, 3, none⟩ = some (.int .u64 f.nm) := by
  have h' : W.heap[B]? = _ := h
  simp [World.cell?, h']
theorem BoxS.kw {W W' : World} {B B' : Nat} {f : Sh} (h : BoxS W B f) (k : Below B' W W') (hb : B < B') : BoxS W' B f := (k.block B hb).trans h
theorem dec_f {p : Prop} [Decidable p] (h : ¬ p) : Hid (decide p = false) := Lib.hid (decide_eq_false h)
theorem dec_t {p : Prop} [Decidable p] (h : p) : Hid (decide p = true) := Lib.hid (decide_eq_true h)
set_option maxRecDepth 100000 in
set_option maxHeartbeats 8000000 in
theorem right_few (A : Option Addr) (n c : Nat) (l : List Pt) (w : World) (hl : l.length = n) (hn : n ≤ 16) (hA : RdP w w.heap.size A l) :
    Calls Try.prog 16 #[.slice A n c] w fun e w' => e = .returned (.bool (rightB l)) ∧ Below w.heap.size w w' := by
  have hde : ¬ (16 : Int) < (n : Int) := by omega
  have HLN := Lib.hid hl
  have HA := Lib.hid hA
  clear hl hA
  have hmm := @run_makeMap Try.prog
  refine (callsIn_wide (n := 10)).1 ?_
  refine callsIn_of_wp_marks Try.func16 rfl trivial ?_ rfl
  refine wpIn_wide.2 ?_
  simp only [Try.ntmps16, List.size_toArray, List.length_cons, List.length_nil, Nat.reduceAdd, Nat.reduceSub, Array.replicate_succ, Array.replicate_zero, List.push_toArray, List.append_toArray, List.nil_append, List.cons_append]
  go_wp2_with (fail)
  have bR := Boxed.new w 4 (.bool false)
  have hb0 : Below w.heap.size w (w.alloc (Obj.cells #[Value.bool false] 4)) := bl_alloc (Below.refl _ _) _
  generalize (w.alloc (Obj.cells #[Value.bool false] 4)) = w0 at *
  have BR := Lib.hid bR
  have HB0 := Lib.hid hb0
  clear bR hb0
  go_loopw [15] (fun vi wr => ∃ i : Nat, i ≤ n ∧ vi = .int .i64 i ∧ ((∀ p ∈ l.take i, mayP p) ∧ idsUp (l.take i)) ∧ Boxed wr w.heap.size 4 (.bool false) ∧ Below w.heap.size w wr) (fun i _ => n - (intOf i).toNat)
  case atStart => exact ⟨0, Nat.zero_le _, rfl, ⟨by simp, by simp [idsUp]⟩, BR.out, HB0.out⟩
  case round =>
    obtain ⟨i, hin, rfl, hok, hbx, hbl⟩ := hrel
    have HOK := Lib.hid hok
    have HBX := Lib.hid hbx
    have HBL := Lib.hid hbl
    have hws := hbl.size
    have hlx := hbx.lt
    by_cases hi : i < n
    · have hi0 : (0 : Int) ≤ (i : Int) := by omega
      have hi1 : (i : Int) < (n : Int) := by omega
      have hil : i < l.length := by rw [HLN.out]; exact hi
      obtain ⟨b, off, rfl, hb, _, hc⟩ := HA.out.1 (by omega)
      obtain ⟨a0, a1⟩ := hc i hil
      obtain ⟨hrd, _⟩ := HA.out.2 _ (getP_mem hil)
      obtain ⟨p, hp⟩ : ∃ p, l.getD i zeroP = p := ⟨_, rfl⟩
      rw [hp] at a0 a1 hrd
      have a0 := (hbl.cell (p := ⟨b, off + i * 2, none⟩) hb).trans a0
      have a1 := (hbl.cell (p := ⟨b, off + i * 2 + 1, none⟩) hb).trans a1
      have hbw : b < wr.heap.size := by omega
      have HP := Lib.hid hp
      have HIL := Lib.hid hil
      have HRD := Lib.hid ((hrd.below hbl).more hws (Nat.le_refl _))
      have HC := Lib.hid hc
      have HPM := Lib.hid (getP_mem hil)
      clear hok hbx hbl hp hrd hc hil
      obtain ⟨pid, pfs, pA, pc⟩ := p
      dsimp only at *
      go_wp2_with (fail)
      have hbA : Below wr.heap.size wr (wr.alloc (Obj.cells #[Value.int .u64 pid, Value.slice pA pfs.length pc] 26)) := bl_alloc (Below.refl _ _) _
      have x0 : (wr.alloc (Obj.cells #[Value.int .u64 pid, Value.slice pA pfs.length pc] 26)).cell? ⟨wr.heap.size, 0, none⟩ = some (.int .u64 pid) := by go_keep
      have x1 : (wr.alloc (Obj.cells #[Value.int .u64 pid, Value.slice pA pfs.length pc] 26)).cell? ⟨wr.heap.size, 1, none⟩ = some (.slice pA pfs.length pc) := by go_keep
      have hl0 : wr.heap.size < (wr.alloc (Obj.cells #[Value.int .u64 pid, Value.slice pA pfs.length pc] 26)).heap.size := by simp
      generalize (wr.alloc (Obj.cells #[Value.int .u64 pid, Value.slice pA pfs.length pc] 26)) = w1 at *
      have HB1 := Lib.hid (HBL.out.trans (hbA.mono hws))
      have BX1 : Hid (Boxed w1 w.heap.size 4 (.bool false)) := Lib.hid ((hbA.block _ hlx).trans HBX.out)
      have a0 := (hbA.cell (p := ⟨b, off + i * 2, none⟩) hbw).trans a0
      have HM : Hid (∀ X : Ext w1, Calls Try.prog 29 #[.agg #[.int .u64 pid, .slice pA pfs.length pc]] X.val fun e w' => e = .returned (.bool (mayB ⟨pid, pfs, pA, pc⟩)) ∧ Below X.val.heap.size X.val w') := Lib.hid fun X => may_any ⟨pid, pfs, pA, pc⟩ X.val (by
        have h1 := hbA.size
        have h2 := X.bl.size
        exact (((HRD.out.below hbA).below (X.bl.mono h1)).more (Nat.le_trans h1 h2) (Nat.le_refl _)))
      have hs1 := hbA.size
      clear hbA
      have e0 := ext_cell x0
      have e1 := ext_cell x1
      by_cases hmy : mayP ⟨pid, pfs, pA, pc⟩
      · have hmt := mayB_t hmy
        have HMY := Lib.hid hmy
        rw [hmt] at HM
        clear hmt hmy
        by_cases hi00 : i = 0
        · have H0 : Hid (decide ((0 : Int) < (i : Int)) = false) := dec_f (by omega)
          have H0n : Hid (decide (0 < i) = false) := dec_f (by omega)
          have HV : Hid ((∀ q ∈ l.take (i + 1), mayP q) ∧ idsUp (l.take (i + 1))) := Lib.hid ⟨by
            rw [take_snocP HIL.out, HP.out]
            intro q hq
            rcases List.mem_append.1 hq with h | h
            · exact HOK.out.1 q h
            · rw [List.mem_singleton.1 h]; exact HMY.out, (idsUp_snoc HIL.out HOK.out.2).2 (fun h => by omega)⟩
          clear hi00
          refine wp_region_ext (by kernel_rfl) (by kernel_rfl) ?_
          repeat (first | rw [H0.out] | rw [H0n.out] | go_big_quiet_step ((go_at_call 29; exact ext_calls (HM.out _))))
          refine wpQuiet_nil ?_
          rintro w2 ⟨⟨_, hb2⟩, rfl⟩
          have hs2 := hb2.size
          have BX2 : Boxed w2 w.heap.size 4 (.bool false) := (hb2.block _ (by omega)).trans BX1.out
          have cX := BX2.cell
          have fX := BX2.frozen
          have HB2 := Lib.hid (HB1.out.trans (hb2.mono (by omega)))
          clear hb2 e0 e1
          go_wp2_with (fail)
          go_roundw
          case rel => exact ⟨i + 1, by omega, by first | rfl | (push_cast; rfl) | go_num, HV.out, BX2, HB2.out⟩
          case measure => simp [intOf]; omega
        · have H0 : Hid (decide ((0 : Int) < (i : Int)) = true) := dec_t (by omega)
          have H0n : Hid (decide (0 < i) = true) := dec_t (by omega)
          have hj0 : (0 : Int) ≤ (i : Int) - 1 := by omega
          have hj1 : (i : Int) - 1 < (n : Int) := by omega
          have hjn : ((i : Int) - 1).toNat = i - 1 := by omega
          have hprev := (HC.out (i - 1) (by rw [HLN.out]; omega)).1
          obtain ⟨v, hv⟩ : ∃ v, (l.getD (i - 1) zeroP).id = v := ⟨_, rfl⟩
          rw [hv] at hprev
          have HVV := Lib.hid hv
          have hprev := (HB1.out.cell (p := ⟨b, off + (i - 1) * 2, none⟩) hb).trans hprev
          have e2 := ext_cell hprev
          clear hv
          by_cases hge : pid ≤ v
          · have H1 : Hid (decide (pid ≤ v) = true) := dec_t hge
            have HU : Hid (rightB l = false) := Lib.hid (rightB_f (fun h => by
              have h3 := (idsUp_snoc HIL.out HOK.out.2).1 (h.2.2.1.take (i + 1)) (by omega)
              rw [HVV.out, HP.out] at h3
              exact absurd h3 (by dsimp only; omega)))
            clear hge hi00
            refine wp_region_ext (by kernel_rfl) (by kernel_rfl) ?_
            repeat (first | rw [H0.out] | rw [H0n.out] | rw [H1.out] | go_big_quiet_step ((go_at_call 29; exact ext_calls (HM.out _))))
            refine wpQuiet_nil ?_
            rintro w2 ⟨⟨_, hb2⟩, rfl⟩
            have hs2 := hb2.size
            have BX2 : Boxed w2 w.heap.size 4 (.bool false) := (hb2.block _ (by omega)).trans BX1.out
            have cX := BX2.cell
            have fX := BX2.frozen
            have HB2 := Lib.hid (HB1.out.trans (hb2.mono (by omega)))
            clear hb2 e0 e1 e2
            go_wp2_with (fail)
            have hcell : (w2.setCell { block := w.heap.size, off := 0 } (Value.bool false)).cell? ⟨w.heap.size, 0, none⟩ = some (.bool false) := (BX2.set (.bool false)).cell
            exact ⟨.bool false, by simp [results, Try.f16, go_sem, hcell], by rw [HU.out], HB2.out.setCell (p := ⟨w.heap.size, 0, none⟩) (Nat.le_refl _) _⟩
          · have H1 : Hid (decide (pid ≤ v) = false) := dec_f hge
            have HV : Hid ((∀ q ∈ l.take (i + 1), mayP q) ∧ idsUp (l.take (i + 1))) := Lib.hid ⟨by
              rw [take_snocP HIL.out, HP.out]
              intro q hq
              rcases List.mem_append.1 hq with h | h
              · exact HOK.out.1 q h
              · rw [List.mem_singleton.1 h]; exact HMY.out, (idsUp_snoc HIL.out HOK.out.2).2 (fun h => by rw [HVV.out, HP.out]; dsimp only; omega)⟩
            clear hge hi00
            refine wp_region_ext (by kernel_rfl) (by kernel_rfl) ?_
            repeat (first | rw [H0.out] | rw [H0n.out] | rw [H1.out] | go_big_quiet_step ((go_at_call 29; exact ext_calls (HM.out _))))
            refine wpQuiet_nil ?_
            rintro w2 ⟨⟨_, hb2⟩, rfl⟩
            have hs2 := hb2.size
            have BX2 : Boxed w2 w.heap.size 4 (.bool false) := (hb2.block _ (by omega)).trans BX1.out
            have cX := BX2.cell
            have fX := BX2.frozen
            have HB2 := Lib.hid (HB1.out.trans (hb2.mono (by omega)))
            clear hb2 e0 e1 e2
            go_wp2_with (fail)
            go_roundw
            case rel => exact ⟨i + 1, by omega, by first | rfl | (push_cast; rfl) | go_num, HV.out, BX2, HB2.out⟩
            case measure => simp [intOf]; omega
      · have hmf := mayB_f hmy
        have HU : Hid (rightB l = false) := Lib.hid (rightB_f (fun h => hmy (by have := h.2.1 _ HPM.out; rw [HP.out] at this; exact this)))
        rw [hmf] at HM
        clear hmf hmy
        refine wp_region_ext (by kernel_rfl) (by kernel_rfl) ?_
        repeat (go_big_quiet_step ((go_at_call 29; exact ext_calls (HM.out _))))
        refine wpQuiet_nil ?_
        rintro w2 ⟨⟨_, hb2⟩, rfl⟩
        have hs2 := hb2.size
        have BX2 : Boxed w2 w.heap.size 4 (.bool false) := (hb2.block _ (by omega)).trans BX1.out
        have cX := BX2.cell
        have fX := BX2.frozen
        have HB2 := Lib.hid (HB1.out.trans (hb2.mono (by omega)))
        clear hb2 e0 e1
        go_wp2_with (fail)
        have hcell : (w2.setCell { block := w.heap.size, off := 0 } (Value.bool false)).cell? ⟨w.heap.size, 0, none⟩ = some (.bool false) := (BX2.set (.bool false)).cell
        exact ⟨.bool false, by simp [results, Try.f16, go_sem, hcell], by rw [HU.out], HB2.out.setCell (p := ⟨w.heap.size, 0, none⟩) (Nat.le_refl _) _⟩
    · have hine : i = n := by omega
      subst hine
      have hirr : ¬ (i : Int) < (i : Int) := by omega
      clear hok hbx hbl
      go_wp2_with (go_at_call 30; refine (callsIn_wide.1 (files_in Fence.wide 5 trivial rfl _ _ _ _)).mono ?_; rintro e w' ⟨rfl, rfl⟩)
      have hR1 := HBX.out
      have hBl1 := HBL.out
      have hlen := HLN.out
      have hfsl : ∀ p ∈ l, p.fs.length ≤ 256 := fun p hp => by have := HOK.out.1; rw [List.take_of_length_le (by omega)] at this; exact (this p hp).2.1
      have hflat : (flat 0 l).length ≤ 4096 := by have := flat_length_le 0 l hfsl; omega
      have hOKl : (∀ p ∈ l, mayP p) ∧ idsUp l := by have := HOK.out; rwa [List.take_of_length_le (by omega)] at this
      have hb3 : Below wr.heap.size wr (((wr.alloc (Obj.map #[] 0)).alloc (Obj.cells #[Value.map (some wr.heap.size)] 61)).alloc (Obj.cells #[Value.slice A i c] 22)) := bl_alloc (bl_alloc (bl_alloc (Below.refl _ _) _) _) _
      have hF0 : FstAt (((wr.alloc (Obj.map #[] 0)).alloc (Obj.cells #[Value.map (some wr.heap.size)] 61)).alloc (Obj.cells #[Value.slice A i c] 22)) wr.heap.size [] := ((FstAt.made wr).grown (World.grownBy_alloc _ _ none) (by simp)).grown (World.grownBy_alloc _ _ none) (by simp)
      have bM : Boxed (((wr.alloc (Obj.map #[] 0)).alloc (Obj.cells #[Value.map (some wr.heap.size)] 61)).alloc (Obj.cells #[Value.slice A i c] 22)) (wr.heap.size + 1) 61 (.map (some wr.heap.size)) := by
        have h := (Boxed.new (wr.alloc (Obj.map #[] 0)) 61 (.map (some wr.heap.size))).alloc (Obj.cells #[Value.slice A i c] 22)
        simpa using h
      have bS : Boxed (((wr.alloc (Obj.map #[] 0)).alloc (Obj.cells #[Value.map (some wr.heap.size)] 61)).alloc (Obj.cells #[Value.slice A i c] 22)) (wr.heap.size + 1 + 1) 22 (.slice A i c) := by
        have h := Boxed.new ((wr.alloc (Obj.map #[] 0)).alloc (Obj.cells #[Value.map (some wr.heap.size)] 61)) 22 (.slice A i c)
        simpa using h
      have hsz : (((wr.alloc (Obj.map #[] 0)).alloc (Obj.cells #[Value.map (some wr.heap.size)] 61)).alloc (Obj.cells #[Value.slice A i c] 22)).heap.size = wr.heap.size + 3 := by simp
      generalize (((wr.alloc (Obj.map #[] 0)).alloc (Obj.cells #[Value.map (some wr.heap.size)] 61)).alloc (Obj.cells #[Value.slice A i c] 22)) = WL at *
      have hBL : Below w.heap.size w WL := hBl1.trans (hb3.mono hws)
      have bR : Boxed WL w.heap.size 4 (.bool false) := (hb3.block _ hlx).trans hR1
      have hPL : RdP WL w.heap.size A l := HA.out.below hBL
      refine (wpIn_wide (n := 10)).1 ?_
      refine wpIn_rangeFunc_ownH rfl (by omega) (gf := 44) (lb := #[.pointer (some ⟨wr.heap.size + 1 + 1, 0, none⟩)]) rfl trivial (enters_of Try.func44 (by kernel_rfl) rfl)
        (files_stops Fence.wide (10 - 1) trivial rfl (by omega) (wr.heap.size + 1 + 1) w.heap.size A c l (by omega) (fun p hp => by have := hfsl p hp; omega) WL (by omega) (by omega) (by rw [hlen]; exact bS.cell) hPL) belowK_t (belowK_b (by omega)) (Below.refl _ _) (fun _ => rfl)
        (fun pre W => (((noClash (pre.map Prod.snd) ∧ FstAt W wr.heap.size (pre.map Prod.snd)) ∧ Boxed W (wr.heap.size + 1) 61 (.map (some wr.heap.size))) ∧ Boxed W w.heap.size 4 (.bool false)) ∧ Below w.heap.size w W)
        (fun cd pre W => ((cd = .ret ∧ ¬ noClash (pre.map Prod.snd)) ∧ Boxed W w.heap.size 4 (.bool false)) ∧ Below w.heap.size w W)
        (OwnFrom.and (OwnFrom.and (OwnFrom.and (OwnFrom.and (ownFrom_pure _ _) (fun s X Y row hs hg hr => hs.grown hg (fun e => by have := (hr _ e.symm).1; omega))) (Own.from (boxed_own _ _ _) _)) (Own.from (boxed_own _ _ _) _)) (ownFrom_below (Nat.le_refl _) (by omega)))
        (fun cd => OwnFrom.and (OwnFrom.and (ownFrom_pure _ _) (Own.from (boxed_own _ _ _) _)) (ownFrom_below (Nat.le_refl _) (by omega)))
        ⟨⟨⟨⟨by simp [noClash], hF0⟩, bM⟩, bR⟩, hBL⟩
        (fun x a' W => ∃ Bx, wr.heap.size + 1 < Bx ∧ BoxS W Bx x.2 ∧ a' = { tmps := #[.slice A i c, undef, .pointer (some ⟨w.heap.size, 0, none⟩), u3, u4, .pointer (some ⟨wr.heap.size + 1, 0, none⟩), undef, .pointer (some ⟨Bx, 0, none⟩), undef, undef, .slice A i c, .int .i64 (i : Int), .bool false, .slice A i c, .int .i64 (i : Int), .int .i64 (i : Int), .bool false, u17, u18, u19, u20, u21, u22, u23, u24, u25, u26, u27, u28, u29, u30, u31, u32, u33, u34, u35, u36, u37, u38, .map (some wr.heap.size), .slice A i c, .func (.func 44) #[] #[.pointer (some ⟨wr.heap.size + 1 + 1, 0, none⟩)], .int .i64 (x.1 : Int), shV x.2, undef, undef, undef, undef, undef, undef, undef, undef, undef, undef, undef, undef, undef, undef, undef, undef, undef], defers := [] })
        (fun x a' _ X Y row hs hg hr => by obtain ⟨Bx, e1, e2, e3⟩ := hs; exact ⟨Bx, e1, e2.own hg (fun r e => (hr r e).2), e3⟩)
        ?assign ?body ?done ?stop
      case assign =>
        rintro lp pre x W K ⟨⟨⟨⟨h1, h2⟩, h3⟩, h4⟩, h5⟩ hK
        simp only [encN, shV]
        gi_wp2
        exact hK _ _ ((KeepsOthers.alloc _ _).from _) ((Below.refl _ W).alloc h5.size _) ⟨⟨⟨⟨h1, h2.grown (World.grownBy_alloc _ _ none) (by simp)⟩, h3.alloc _⟩, h4.alloc _⟩, h5.alloc h5.size _⟩ ⟨W.heap.size, h3.lt, BoxS.new W x.2, rfl⟩
      case body =>
        rintro lp pre x a' W hlp ⟨r, hr⟩ ⟨⟨⟨⟨h1, h2⟩, h3⟩, h4⟩, h5⟩ ⟨Bx, hBx, hxb, rfl⟩ hpl
        have cM := h3.cell
        obtain ⟨y0, y1, y2, y3⟩ := hxb.cells
        have hsW := h5.size
        have hlm := h3.lt
        have hlr := h4.lt
        have hlX := hxb.lt
        have hLl : (pre.map Prod.snd).length < 1000000 := by rw [List.length_map]; omega
        have hsn : (pre ++ [x]).map Prod.snd = pre.map Prod.snd ++ [x.2] := by simp
        obtain ⟨xi, f⟩ := x
        dsimp only at *
        by_cases hex : ∃ g ∈ pre.map Prod.snd, g.nm = f.nm
        · obtain ⟨g, hg, hgn⟩ := hex
          have hlk := h2.look_some h1 hg
          rw [hgn] at hlk
          unfold shV at hlk
          have H2 := Lib.hid h2
          have H1 := Lib.hid h1
          have HSN := Lib.hid hsn
          have HG := Lib.hid hg
          have HGN := Lib.hid hgn
          have H3 := Lib.hid h3
          have H4 := Lib.hid h4
          have H5 := Lib.hid h5
          have HR := Lib.hid hr
          have HX := Lib.hid hxb
          have hbW : Below W.heap.size W (W.alloc (Obj.cells #[.int .u64 g.tb, .int .i64 g.sz, .int .u32 g.sm, .int .u64 g.nm] 36)) := bl_alloc (Below.refl _ _) _
          have HBW := Lib.hid hbW
          by_cases hgf : g = f
          · subst hgf
            obtain ⟨w3, hst, hf3, hg3⟩ := (h2.grown (World.grownBy_alloc W (Obj.cells #[.int .u64 g.tb, .int .i64 g.sz, .int .u32 g.sm, .int .u64 g.nm] 36) none) (by simp)).store g hLl
            unfold shV at hst
            have HF3 := Lib.hid hf3
            have HG3 := Lib.hid hg3
            clear h1 h2 h3 h4 h5 hr hxb hsn hg hgn hbW hf3 hg3
            have HV : Hid (noClash ((pre ++ [(xi, g)]).map Prod.snd)) := Lib.hid (by rw [HSN.out]; exact noClash_snoc.2 ⟨H1.out, fun g' hg' e => H1.out g' hg' g HG.out e⟩)
            rw [← HSN.out] at HF3
            gi_wp2
            exact ⟨KeepsFrom.trans ((KeepsOthers.alloc _ _).from _) (KeepsFrom.of_grownBy HG3.out (fun j e => by cases e; omega)), ((Below.refl _ W).alloc hsW _).grown HG3.out (by simp; omega) (fun k e => by cases e; omega),
              ⟨⟨⟨⟨HV.out, HF3.out⟩, (H3.out.alloc _).kept HG3.out (by simp)⟩, (H4.out.alloc _).kept HG3.out (by simp; omega)⟩, (H5.out.alloc hsW _).grown HG3.out (by simp; omega) (fun k e => by cases e; omega)⟩⟩
          · have HV : Hid (¬ noClash ((pre ++ [(xi, f)]).map Prod.snd)) := Lib.hid (by rw [HSN.out]; exact fun h => hgf ((noClash_snoc.1 h).2 g hg hgn))
            have cR := h4.cell
            have fR := h4.frozen
            have hpr := sh_parts hgf hgn
            clear h1 h2 h3 h4 h5 hr hxb hsn hbW hgf HX HBW HG HGN hg
            obtain ⟨gt, gs, gm, gn, g5, g6, g7, g8⟩ := g
            obtain ⟨ft, fs, fm, fn, f5, f6, f7, f8⟩ := f
            dsimp only at *
            subst hgn
            rcases hpr with hne | ⟨rfl, hne⟩ | ⟨rfl, rfl, hne⟩
            · gi_wp2
              exact ⟨KeepsFrom.trans ((KeepsOthers.setCell _ _ _).from _) ((KeepsOthers.alloc _ _).from _), ⟨⟨⟨rfl, HV.out⟩, (H4.out.set _).alloc _⟩, (H5.out.setCell (p := ⟨w.heap.size, 0, none⟩) (Nat.le_refl _) _).alloc (by simpa [World.setCell] using hsW) _⟩⟩
            · gi_wp2
              exact ⟨KeepsFrom.trans ((KeepsOthers.setCell _ _ _).from _) ((KeepsOthers.alloc _ _).from _), ⟨⟨⟨rfl, HV.out⟩, (H4.out.set _).alloc _⟩, (H5.out.setCell (p := ⟨w.heap.size, 0, none⟩) (Nat.le_refl _) _).alloc (by simpa [World.setCell] using hsW) _⟩⟩
            · gi_wp2
              exact ⟨KeepsFrom.trans ((KeepsOthers.setCell _ _ _).from _) ((KeepsOthers.alloc _ _).from _), ⟨⟨⟨rfl, HV.out⟩, (H4.out.set _).alloc _⟩, (H5.out.setCell (p := ⟨w.heap.size, 0, none⟩) (Nat.le_refl _) _).alloc (by simpa [World.setCell] using hsW) _⟩⟩
        · have hno : ∀ g ∈ pre.map Prod.snd, g.nm ≠ f.nm := fun g hg e => hex ⟨g, hg, e⟩
          have hlk : (Instr.lookup 61 (.map (some wr.heap.size)) (.int .u64 f.nm) true).run Try.prog W = .ok (.tuple #[.agg #[.int .u64 0, .int .i64 0, .int .u32 0, .int .u64 0], .bool false]) W := h2.look_none f.wn hno
          obtain ⟨w3, hst, hf3, hg3⟩ := (h2.grown (World.grownBy_alloc W (Obj.cells #[.int .u64 0, .int .i64 0, .int .u32 0, .int .u64 0] 36) none) (by simp)).store f hLl
          unfold shV at hst
          have HF3 := Lib.hid hf3
          have HG3 := Lib.hid hg3
          have HV : Hid (noClash ((pre ++ [(xi, f)]).map Prod.snd)) := Lib.hid (by rw [hsn]; exact noClash_snoc.2 ⟨h1, fun g' hg' e => absurd e (hno g' hg')⟩)
          rw [← hsn] at HF3
          have H3 := Lib.hid h3
          have H4 := Lib.hid h4
          have H5 := Lib.hid h5
          clear h1 h2 h3 h4 h5 hr hxb hsn hno hex hf3 hg3
          gi_wp2
          exact ⟨KeepsFrom.trans ((KeepsOthers.alloc _ _).from _) (KeepsFrom.of_grownBy HG3.out (fun j e => by cases e; omega)), ((Below.refl _ W).alloc hsW _).grown HG3.out (by simp; omega) (fun k e => by cases e; omega),
            ⟨⟨⟨⟨HV.out, HF3.out⟩, (H3.out.alloc _).kept HG3.out (by simp)⟩, (H4.out.alloc _).kept HG3.out (by simp; omega)⟩, (H5.out.alloc hsW _).grown HG3.out (by simp; omega) (fun k e => by cases e; omega)⟩⟩
      case done =>
        rintro D ys W hD rfl ⟨⟨⟨⟨h1, h2⟩, h3⟩, h4⟩, h5⟩ hK
        have HU : Hid (rightB l = true) := Lib.hid (rightB_t ⟨by omega, hOKl.1, hOKl.2, h1⟩)
        have cR := h4.cell
        have fR := h4.frozen
        have H4 := Lib.hid h4
        have H5 := Lib.hid h5
        have HK := Lib.hid hK
        clear h1 h2 h3 h4 h5 hK
        go_wp2_with (fail)
        have hK' := (KeepsOthers.setCell W ⟨w.heap.size, 0, none⟩ (.bool true)).same D _ HK.out rfl
        refine ⟨by simp, .inl ⟨_, _, rfl, run_takeDeferred hK', ?_⟩⟩
        have hc5 := cell_kept (H4.out.set (.bool true)).cell (grownBy_putObj' _ D (.deferred none)) (fun r e => by cases e; exact ⟨_, hK', rfl⟩)
        refine ⟨.bool true, ?_, by rw [HU.out], (H5.out.setCell (p := ⟨w.heap.size, 0, none⟩) (Nat.le_refl _) _).trans (belowK_b (w := WL) (by omega) _ D _ _ hD hK' rfl rfl)⟩
        simp [results, Try.f16, go_sem, hc5]
      case stop =>
        rintro D cd pre W hD hpre ⟨⟨⟨rfl, h1⟩, h4⟩, h5⟩ hK
        have HU : Hid (rightB l = false) := Lib.hid (rightB_f (fun h => h1 (fun f hf g hg e => h.2.2.2 f ((hpre.map _).subset hf) g ((hpre.map _).subset hg) e)))
        have H4 := Lib.hid h4
        have H5 := Lib.hid h5
        have HK := Lib.hid hK
        have hc4 := h4
        have hK4 := hK
        clear h1 h4 h5 hK
        gi_wp2
        refine ⟨by simp, .inl ⟨_, _, rfl, run_takeDeferred HK.out, ?_⟩⟩
        have hc5 := cell_kept H4.out.cell (grownBy_putObj' _ D (.deferred none)) (fun r e => by cases e; exact ⟨_, HK.out, rfl⟩)
        refine ⟨.bool false, ?_, by rw [HU.out], H5.out.trans (belowK_b (w := WL) (by omega) W D _ _ hD HK.out rfl rfl)⟩
        simp [results, Try.f16, go_sem, hc5]
end Go.Proofs.Ytmalcekbhnkfgaa
namespace Go.Proofs.Ytmalcekbhnkfgaa
open Go.RowKit Go.Maps Go.Shelf
set_option linter.unusedVariables false
set_option linter.unusedSimpArgs false
attribute [local go_sem] Oper.semAt_some

theorem right_any (A : Option Addr) (c : Nat) (l : List Pt) (w : World) (hA : RdP w w.heap.size A l) :
    Calls Try.prog 16 #[.slice A l.length c] w fun e w' => e = .returned (.bool (rightB l)) ∧ Below w.heap.size w w' := by
  by_cases hn : l.length ≤ 16
  · exact right_few A l.length c l w rfl hn hA
  · exact right_many A l.length c l w rfl (by omega)
theorem CntAt.grown {w w' : World} {row : Option Nat} {b : Nat} {L : List Int} (h : CntAt w b L) (g : w.grownBy w' row) (hb : some b ≠ row) : CntAt w' b L := by
  obtain ⟨D, ho, h1⟩ := h
  have hlt := ho.lt
  obtain ⟨es, clock, hb', F, hs, hD⟩ := ho
  exact ⟨D, ⟨es, clock, (g.block b hlt hb).trans hb', F, hs, hD⟩, h1⟩
/-- The numbers that are counted, the last one first. -/
def nums (l : List (Nat × Sh)) : List Int := (l.map (fun x => x.2.nm)).reverse
theorem nums_snoc (l : List (Nat × Sh)) (x : Nat × Sh) : nums (l ++ [x]) = x.2.nm :: nums l := by simp [nums]
theorem nums_length (l : List (Nat × Sh)) : (nums l).length = l.length := by simp [nums]
set_option maxRecDepth 100000 in
set_option maxHeartbeats 4000000 in
theorem counted_right (A : Option Addr) (n c : Nat) (l : List Pt) (w : World) (hl : l.length = n) (hA : RdP w w.heap.size A l) (hr : RightP l) :
    Calls Try.prog 36 #[.slice A n c] w fun e w' => e = .returned (.map (some w.heap.size)) ∧ CntAt w' w.heap.size (nums (flat 0 l)) ∧ Below w.heap.size w w' := by
  have hfs : ∀ p ∈ l, p.fs.length ≤ 256 := fun p hp => (hr.2.1 p hp).2.1
  have hn16 : n ≤ 16 := by have := hr.1; omega
  have hflat : (flat 0 l).length ≤ 4096 := by have := flat_length_le 0 l hfs; omega
  have hrt := rightB_t hr
  have hR := fun (w' : World) (h : Below w.heap.size w w') => right_any A c l w' ((hA.below h).more h.size (Nat.le_refl _))
  rw [hl, hrt] at hR
  have HR := Lib.hid hR
  have HA := Lib.hid hA
  have HFS := Lib.hid hfs
  have HLN := Lib.hid hl
  have HFL := Lib.hid hflat
  clear hfs hflat hrt hR hA hr hl
  have hmm := @run_makeMap Try.prog
  refine (callsIn_wide (n := 10)).1 ?_
  refine callsIn_of_wp_marks Try.func36 rfl trivial ?_ rfl
  refine wpIn_wide.2 ?_
  simp only [Try.ntmps36, List.size_toArray, List.length_cons, List.length_nil, Nat.reduceAdd, Nat.reduceSub, Array.replicate_succ, Array.replicate_zero, List.push_toArray, List.append_toArray, List.nil_append, List.cons_append]
  go_wp2_with (fail)
  have hb1 : Below w.heap.size w ((w.alloc (Obj.map #[] 0)).alloc (Obj.cells #[Value.map (some w.heap.size)] 62)) := bl_alloc (bl_alloc (Below.refl _ _) _) _
  have c1 : CntAt ((w.alloc (Obj.map #[] 0)).alloc (Obj.cells #[Value.map (some w.heap.size)] 62)) w.heap.size [] := (CntAt.made w).grown (World.grownBy_alloc _ _ none) (by simp)
  have bM : Boxed ((w.alloc (Obj.map #[] 0)).alloc (Obj.cells #[Value.map (some w.heap.size)] 62)) (w.heap.size + 1) 62 (.map (some w.heap.size)) := by
    have h := Boxed.new (w.alloc (Obj.map #[] 0)) 62 (.map (some w.heap.size))
    simpa using h
  have hs1 : w.heap.size + 2 = ((w.alloc (Obj.map #[] 0)).alloc (Obj.cells #[Value.map (some w.heap.size)] 62)).heap.size := by simp
  generalize ((w.alloc (Obj.map #[] 0)).alloc (Obj.cells #[Value.map (some w.heap.size)] 62)) = w1 at *
  refine (HR.out _ hb1).mono ?_
  rintro e w2 ⟨rfl, hb2⟩
  have hs2 := hb2.size
  have c2 := c1.below hb2 (by omega)
  have bM2 : Boxed w2 (w.heap.size + 1) 62 (.map (some w.heap.size)) := (hb2.block _ (by omega)).trans bM
  have HB2 := Lib.hid (bl_then hb1 hb2)
  have HC2 := Lib.hid c2
  have HM2 := Lib.hid bM2
  clear hb1 c1 bM hb2 c2 bM2
  go_wp2_with (go_at_call 30; refine (callsIn_wide.1 (files_in Fence.wide 5 trivial rfl _ _ _ _)).mono ?_; rintro e w' ⟨rfl, rfl⟩)
  have hfsl := HFS.out
  have hflat := HFL.out
  have hlen := HLN.out
  have bS := Boxed.new w2 22 (.slice A n c)
  have hbW : Below w2.heap.size w2 (w2.alloc (Obj.cells #[Value.slice A n c] 22)) := bl_alloc (Below.refl _ _) _
  have hBL : Below w.heap.size w (w2.alloc (Obj.cells #[Value.slice A n c] 22)) := HB2.out.trans (hbW.mono (by omega))
  have cL : CntAt (w2.alloc (Obj.cells #[Value.slice A n c] 22)) w.heap.size [] := HC2.out.below hbW (by omega)
  have bML : Boxed (w2.alloc (Obj.cells #[Value.slice A n c] 22)) (w.heap.size + 1) 62 (.map (some w.heap.size)) := (hbW.block _ (by omega)).trans HM2.out
  have hsz : (w2.alloc (Obj.cells #[Value.slice A n c] 22)).heap.size = w2.heap.size + 1 := by simp
  generalize (w2.alloc (Obj.cells #[Value.slice A n c] 22)) = WL at *
  have hPL : RdP WL w.heap.size A l := HA.out.below hBL
  refine (wpIn_wide (n := 10)).1 ?_
  refine wpIn_rangeFunc_ownH rfl (by omega) (gf := 44) (lb := #[.pointer (some ⟨w2.heap.size, 0, none⟩)]) rfl trivial (enters_of Try.func44 (by kernel_rfl) rfl)
    (files_stops Fence.wide (10 - 1) trivial rfl (by omega) w2.heap.size w.heap.size A c l (by omega) (fun p hp => by have := hfsl p hp; omega) WL (by omega) (by omega) (by rw [hlen]; exact bS.cell) hPL) belowK_t (belowK_b (by omega)) (Below.refl _ _) (fun _ => rfl)
    (fun pre W => (CntAt W w.heap.size (nums pre) ∧ Boxed W (w.heap.size + 1) 62 (.map (some w.heap.size))) ∧ Below w.heap.size w W)
    (fun _ _ _ => False)
    (OwnFrom.and (OwnFrom.and (fun s X Y row hs hg hr => hs.grown hg (fun e => by have := (hr _ e.symm).1; omega)) (Own.from (boxed_own _ _ _) _)) (ownFrom_below (Nat.le_refl _) (by omega)))
    (fun _ _ _ _ _ hs _ _ => hs)
    ⟨⟨cL, bML⟩, hBL⟩
    (fun x a' W => ∃ Bx, w.heap.size + 1 < Bx ∧ BoxS W Bx x.2 ∧ a' = { tmps := #[.slice A n c, undef, .map none, .pointer (some ⟨w.heap.size + 1, 0, none⟩), undef, .pointer (some ⟨Bx, 0, none⟩), .map (some w.heap.size), .slice A n c, .bool true, .slice A n c, .func (.func 44) #[] #[.pointer (some ⟨w2.heap.size, 0, none⟩)], .int .i64 (x.1 : Int), shV x.2, undef, undef, undef, undef, undef, undef], defers := [] })
    (fun x a' _ X Y row hs hg hr => by obtain ⟨Bx, e1, e2, e3⟩ := hs; exact ⟨Bx, e1, e2.own hg (fun r e => (hr r e).2), e3⟩)
    ?assign ?body ?done ?stop
  case assign =>
    rintro lp pre x W K ⟨⟨h2, h3⟩, h5⟩ hK
    simp only [encN, shV]
    gi_wp2
    exact hK _ _ ((KeepsOthers.alloc _ _).from _) ((Below.refl _ W).alloc h5.size _) ⟨⟨h2.grown (World.grownBy_alloc _ _ none) (by simp), h3.alloc _⟩, h5.alloc h5.size _⟩ ⟨W.heap.size, h3.lt, BoxS.new W x.2, rfl⟩
  case body =>
    rintro lp pre x a' W hlp ⟨r, hr⟩ ⟨⟨h2, h3⟩, h5⟩ ⟨Bx, hBx, hxb, rfl⟩ hpl
    have cM := h3.cell
    obtain ⟨y0, y1, y2, y3⟩ := hxb.cells
    have hsW := h5.size
    have hlm := h3.lt
    have hlX := hxb.lt
    have hns := nums_snoc pre x
    obtain ⟨xi, f⟩ := x
    dsimp only at *
    have hlk := h2.look f.wn
    obtain ⟨w3, hst, hc3, hg3⟩ := h2.bump f.wn (by rw [nums_length]; omega)
    have hq := List.count_le_length (a := f.nm) (l := nums pre)
    rw [nums_length] at hq
    generalize (nums pre).count f.nm = q at *
    have hq0 : (0 : Int) ≤ (q : Int) := by omega
    have hq1 : (q : Int) ≤ 4096 := by omega
    have H3 := Lib.hid h3
    have H5 := Lib.hid h5
    have HC3 := Lib.hid hc3
    have HG3 := Lib.hid hg3
    have HNS := Lib.hid hns
    clear h2 h3 h5 hc3 hg3 hns hxb hr hq
    gi_wp2
    exact ⟨KeepsFrom.of_grownBy HG3.out (fun j e => by cases e; omega), (Below.refl _ W).grown HG3.out hsW (fun k e => by cases e; exact Nat.le_refl _),
      ⟨⟨by rw [HNS.out]; exact HC3.out, H3.out.kept HG3.out (by simp)⟩, H5.out.grown HG3.out hsW (fun k e => by cases e; exact Nat.le_refl _)⟩⟩
  case done =>
    rintro D ys W hD rfl ⟨⟨h2, h3⟩, h5⟩ hK
    have cM := h3.cell
    have H2 := Lib.hid h2
    have H5 := Lib.hid h5
    have HK := Lib.hid hK
    clear h2 h3 h5 hK
    go_wp2_with (fail)
    refine ⟨by simp, .inl ⟨_, _, rfl, run_takeDeferred HK.out, ?_⟩⟩
    exact ⟨.map (some w.heap.size), by simp [results, Try.f36, go_sem], rfl, H2.out.grown (grownBy_putObj' _ D _) (fun e => by cases e; omega), H5.out.trans (belowK_b (w := WL) (by omega) W D _ _ hD HK.out rfl rfl)⟩
  case stop =>
    rintro D cd pre W _ _ h _
    exact h.elim
set_option maxRecDepth 100000 in
set_option maxHeartbeats 2000000 in
theorem counted_wrong (A : Option Addr) (n c : Nat) (l : List Pt) (w : World) (hl : l.length = n) (hA : RdP w w.heap.size A l) (hr : ¬ RightP l) :
    Calls Try.prog 36 #[.slice A n c] w fun e w' => e = .returned (.map (some w.heap.size)) ∧ CntAt w' w.heap.size [] ∧ Below w.heap.size w w' := by
  have hrt := rightB_f hr
  have hR := fun (w' : World) (h : Below w.heap.size w w') => right_any A c l w' ((hA.below h).more h.size (Nat.le_refl _))
  rw [hl, hrt] at hR
  have HR := Lib.hid hR
  clear hrt hR hA hr hl
  have hmm := @run_makeMap Try.prog
  refine (callsIn_wide (n := 10)).1 ?_
  refine callsIn_of_wp_marks Try.func36 rfl trivial ?_ rfl
  refine wpIn_wide.2 ?_
  simp only [Try.ntmps36, List.size_toArray, List.length_cons, List.length_nil, Nat.reduceAdd, Nat.reduceSub, Array.replicate_succ, Array.replicate_zero, List.push_toArray, List.append_toArray, List.nil_append, List.cons_append]
  go_wp2_with (fail)
  have hb1 : Below w.heap.size w ((w.alloc (Obj.map #[] 0)).alloc (Obj.cells #[Value.map (some w.heap.size)] 62)) := bl_alloc (bl_alloc (Below.refl _ _) _) _
  have c1 : CntAt ((w.alloc (Obj.map #[] 0)).alloc (Obj.cells #[Value.map (some w.heap.size)] 62)) w.heap.size [] := (CntAt.made w).grown (World.grownBy_alloc _ _ none) (by simp)
  have bM : Boxed ((w.alloc (Obj.map #[] 0)).alloc (Obj.cells #[Value.map (some w.heap.size)] 62)) (w.heap.size + 1) 62 (.map (some w.heap.size)) := by
    have h := Boxed.new (w.alloc (Obj.map #[] 0)) 62 (.map (some w.heap.size))
    simpa using h
  have hs1 : w.heap.size + 2 = ((w.alloc (Obj.map #[] 0)).alloc (Obj.cells #[Value.map (some w.heap.size)] 62)).heap.size := by simp
  generalize ((w.alloc (Obj.map #[] 0)).alloc (Obj.cells #[Value.map (some w.heap.size)] 62)) = w1 at *
  refine (HR.out _ hb1).mono ?_
  rintro e w2 ⟨rfl, hb2⟩
  have hs2 := hb2.size
  have c2 := c1.below hb2 (by omega)
  have bM2 : Boxed w2 (w.heap.size + 1) 62 (.map (some w.heap.size)) := (hb2.block _ (by omega)).trans bM
  have HB2 := Lib.hid (bl_then hb1 hb2)
  have HC2 := Lib.hid c2
  have cM := bM2.cell
  clear hb1 c1 bM hb2 c2 bM2
  go_wp2_with (fail)
  exact ⟨.map (some w.heap.size), by simp [results, Try.f36, go_sem], rfl, HC2.out, HB2.out⟩
open Classical in
/-- What is counted. -/
noncomputable def cntL (l : List Pt) : List Int := if RightP l then nums (flat 0 l) else []
theorem counted_any (A : Option Addr) (c : Nat) (l : List Pt) (w : World) (hA : RdP w w.heap.size A l) :
    Calls Try.prog 36 #[.slice A l.length c] w fun e w' => e = .returned (.map (some w.heap.size)) ∧ CntAt w' w.heap.size (cntL l) ∧ Below w.heap.size w w' := by
  unfold cntL
  split
  · rename_i h
    exact counted_right A l.length c l w rfl hA h
  · rename_i h
    exact counted_wrong A l.length c l w rfl hA h
end Go.Proofs.Ytmalcekbhnkfgaa
namespace Go.Proofs.Ytmalcekbhnkfgaa
open Go.RowKit Go.Maps Go.Shelf
set_option linter.unusedVariables false
set_option linter.unusedSimpArgs false
attribute [local go_sem] Oper.semAt_some

def isK (t s m : Int) (f : Sh) : Prop := f.tb = t ∧ f.sz = s ∧ f.sm = m
instance (t s m : Int) (f : Sh) : Decidable (isK t s m f) := by unfold isK; infer_instance
/-- The last one of them that is asked for. -/
def kn (t s m : Int) (l : List Sh) : Sh × Bool := l.foldl (fun a f => if isK t s m f then (f, true) else a) (zeroS, false)
theorem kn_yes {t s m : Int} {l : List Sh} {f : Sh} (h : isK t s m f) : kn t s m (l ++ [f]) = (f, true) := by simp [kn, h]
theorem kn_no {t s m : Int} {l : List Sh} {f : Sh} (h : ¬ isK t s m f) : kn t s m (l ++ [f]) = kn t s m l := by simp [kn, h]
theorem kn_nil (t s m : Int) : kn t s m [] = (zeroS, false) := rfl
theorem BoxS.frozens {W : World} {B : Nat} {f : Sh} (h : BoxS W B f) : W.frozen? ⟨B, 0, none⟩ = false ∧ W.frozen? ⟨B, 1, none⟩ = false ∧ W.frozen? ⟨B, 2, none⟩ = false ∧ W.frozen? ⟨B, 3, none⟩ = false := by
  have h' : W.heap[B]? = _ := h
  simp [World.frozen?, h']
theorem set_heap {W : World} {B i : Nat} {v : Value} {cs : Array Value} {t : TypeId} (h : W.heap[B]? = some (Obj.cells cs t)) : (W.setCell ⟨B, i, none⟩ v).heap[B]? = some (Obj.cells (cs.setIfInBounds i v) t) := by
  have hl := (Array.getElem?_eq_some_iff.1 h).1
  have h2 := (Array.getElem?_eq_some_iff.1 h).2
  simp only [World.setCell]
  rw [Array.getElem?_eq_getElem (by simpa using hl), Array.getElem_modify_self, h2]
  rfl
theorem BoxS.set4 {W : World} {B : Nat} {g : Sh} (h : BoxS W B g) (f : Sh) : BoxS ((((W.setCell ⟨B, 0, none⟩ (.int .u64 f.tb)).setCell ⟨B, 1, none⟩ (.int .i64 f.sz)).setCell ⟨B, 2, none⟩ (.int .u32 f.sm)).setCell ⟨B, 3, none⟩ (.int .u64 f.nm)) B f :=
  set_heap (set_heap (set_heap (set_heap h)))
theorem set4k (W : World) (B : Nat) (v0 v1 v2 v3 : Value) (k : Nat) (hk : k ≠ B) : ((((W.setCell ⟨B, 0, none⟩ v0).setCell ⟨B, 1, none⟩ v1).setCell ⟨B, 2, none⟩ v2).setCell ⟨B, 3, none⟩ v3).heap[k]? = W.heap[k]? := by
  rw [Below.heap_setCell _ _ _ _ hk, Below.heap_setCell _ _ _ _ hk, Below.heap_setCell _ _ _ _ hk, Below.heap_setCell _ _ _ _ hk]
theorem set5 (W : World) (B B' : Nat) (v0 v1 v2 v3 v4 : Value) (k : Nat) (hk : k ≠ B) (hk' : k ≠ B') : (((((W.setCell ⟨B, 0, none⟩ v0).setCell ⟨B, 1, none⟩ v1).setCell ⟨B, 2, none⟩ v2).setCell ⟨B, 3, none⟩ v3).setCell ⟨B', 0, none⟩ v4).heap[k]? = W.heap[k]? := by
  rw [Below.heap_setCell _ _ _ _ hk', set4k W B v0 v1 v2 v3 k hk]
set_option maxRecDepth 100000 in
set_option maxHeartbeats 4000000 in
theorem known_right (A : Option Addr) (n c : Nat) (l : List Pt) (t s m : Int) (w : World) (hl : l.length = n) (hA : RdP w w.heap.size A l) (hr : RightP l) :
    Calls Try.prog 22 #[.slice A n c, .int .u64 t, .int .i64 s, .int .u32 m] w fun e w' => e = .returned (.tuple #[shV (kn t s m (allF l)).1, .bool (kn t s m (allF l)).2]) ∧ Below w.heap.size w w' := by
  have hfs : ∀ p ∈ l, p.fs.length ≤ 256 := fun p hp => (hr.2.1 p hp).2.1
  have hn16 : n ≤ 16 := by have := hr.1; omega
  have hflat : (flat 0 l).length ≤ 4096 := by have := flat_length_le 0 l hfs; omega
  have hrt := rightB_t hr
  have hR := fun (w' : World) (h : Below w.heap.size w w') => right_any A c l w' ((hA.below h).more h.size (Nat.le_refl _))
  rw [hl, hrt] at hR
  have HR := Lib.hid hR
  have HA := Lib.hid hA
  have HFS := Lib.hid hfs
  have HLN := Lib.hid hl
  have HFL := Lib.hid hflat
  clear hfs hflat hrt hR hA hr hl
  refine (callsIn_wide (n := 10)).1 ?_
  refine callsIn_of_wp_marks Try.func22 rfl trivial ?_ rfl
  refine wpIn_wide.2 ?_
  simp only [Try.ntmps22, List.size_toArray, List.length_cons, List.length_nil, Nat.reduceAdd, Nat.reduceSub, Array.replicate_succ, Array.replicate_zero, List.push_toArray, List.append_toArray, List.nil_append, List.cons_append]
  go_wp2_with (fail)
  obtain ⟨WA, hWA⟩ : ∃ WA, WA = ((((w.alloc (Obj.cells #[.int .u64 t] 23)).alloc (Obj.cells #[.int .i64 s] 3)).alloc (Obj.cells #[.int .u32 m] 34)).alloc (Obj.cells #[.int .u64 0, .int .i64 0, .int .u32 0, .int .u64 0] 36)).alloc (Obj.cells #[.bool false] 4) := ⟨_, rfl⟩
  have b1 : Boxed WA w.heap.size 23 (.int .u64 t) := by rw [hWA]; exact ((((Boxed.new w 23 (.int .u64 t)).alloc _).alloc _).alloc _).alloc _
  have b2 : Boxed WA (w.heap.size + 1) 3 (.int .i64 s) := by rw [hWA]; simpa using (((Boxed.new (w.alloc (Obj.cells #[.int .u64 t] 23)) 3 (.int .i64 s)).alloc (Obj.cells #[.int .u32 m] 34)).alloc (Obj.cells #[.int .u64 0, .int .i64 0, .int .u32 0, .int .u64 0] 36)).alloc (Obj.cells #[.bool false] 4)
  have b3 : Boxed WA (w.heap.size + 1 + 1) 34 (.int .u32 m) := by rw [hWA]; simpa using ((Boxed.new ((w.alloc (Obj.cells #[.int .u64 t] 23)).alloc (Obj.cells #[.int .i64 s] 3)) 34 (.int .u32 m)).alloc (Obj.cells #[.int .u64 0, .int .i64 0, .int .u32 0, .int .u64 0] 36)).alloc (Obj.cells #[.bool false] 4)
  have b4 : BoxS WA (w.heap.size + 1 + 1 + 1) zeroS := by
    rw [hWA]
    have h := (BoxS.new (((w.alloc (Obj.cells #[.int .u64 t] 23)).alloc (Obj.cells #[.int .i64 s] 3)).alloc (Obj.cells #[.int .u32 m] 34)) zeroS).grown (World.grownBy_alloc _ (Obj.cells #[.bool false] 4) none) (by simp)
    simp only [World.size_alloc] at h
    exact h
  have b5 : Boxed WA (w.heap.size + 1 + 1 + 1 + 1) 4 (.bool false) := by rw [hWA]; simpa using Boxed.new ((((w.alloc (Obj.cells #[.int .u64 t] 23)).alloc (Obj.cells #[.int .i64 s] 3)).alloc (Obj.cells #[.int .u32 m] 34)).alloc (Obj.cells #[.int .u64 0, .int .i64 0, .int .u32 0, .int .u64 0] 36)) 4 (.bool false)
  have hbA : Below w.heap.size w WA := by rw [hWA]; exact bl_alloc (bl_alloc (bl_alloc (bl_alloc (bl_alloc (Below.refl _ _) _) _) _) _) _
  have hsA : WA.heap.size = w.heap.size + 5 := by rw [hWA]; simp
  rw [← hWA]
  clear hWA
  refine (HR.out _ hbA).mono ?_
  rintro e w2 ⟨rfl, hb2⟩
  have hs2 := hb2.size
  have b1 : Boxed w2 w.heap.size 23 (.int .u64 t) := (hb2.block _ (by omega)).trans b1
  have b2 : Boxed w2 (w.heap.size + 1) 3 (.int .i64 s) := (hb2.block _ (by omega)).trans b2
  have b3 : Boxed w2 (w.heap.size + 1 + 1) 34 (.int .u32 m) := (hb2.block _ (by omega)).trans b3
  have b4 : BoxS w2 (w.heap.size + 1 + 1 + 1) zeroS := b4.kw hb2 (by omega)
  have b5 : Boxed w2 (w.heap.size + 1 + 1 + 1 + 1) 4 (.bool false) := (hb2.block _ (by omega)).trans b5
  have HB2 := Lib.hid (bl_then hbA hb2)
  have B1 := Lib.hid b1
  have B2 := Lib.hid b2
  have B3 := Lib.hid b3
  have B4 := Lib.hid b4
  have B5 := Lib.hid b5
  clear b1 b2 b3 b4 b5 hbA hb2
  go_wp2_with (go_at_call 30; refine (callsIn_wide.1 (files_in Fence.wide 5 trivial rfl _ _ _ _)).mono ?_; rintro e w' ⟨rfl, rfl⟩)
  have hfsl := HFS.out
  have hflat := HFL.out
  have hlen := HLN.out
  have bS := Boxed.new w2 22 (.slice A n c)
  have hbW : Below w2.heap.size w2 (w2.alloc (Obj.cells #[Value.slice A n c] 22)) := bl_alloc (Below.refl _ _) _
  have hBL : Below w.heap.size w (w2.alloc (Obj.cells #[Value.slice A n c] 22)) := HB2.out.trans (hbW.mono (by omega))
  have b1 : Boxed (w2.alloc (Obj.cells #[Value.slice A n c] 22)) w.heap.size 23 (.int .u64 t) := B1.out.alloc _
  have b2 : Boxed (w2.alloc (Obj.cells #[Value.slice A n c] 22)) (w.heap.size + 1) 3 (.int .i64 s) := B2.out.alloc _
  have b3 : Boxed (w2.alloc (Obj.cells #[Value.slice A n c] 22)) (w.heap.size + 1 + 1) 34 (.int .u32 m) := B3.out.alloc _
  have b4 : BoxS (w2.alloc (Obj.cells #[Value.slice A n c] 22)) (w.heap.size + 1 + 1 + 1) zeroS := B4.out.kw hbW (by omega)
  have b5 : Boxed (w2.alloc (Obj.cells #[Value.slice A n c] 22)) (w.heap.size + 1 + 1 + 1 + 1) 4 (.bool false) := B5.out.alloc _
  have hsz : (w2.alloc (Obj.cells #[Value.slice A n c] 22)).heap.size = w2.heap.size + 1 := by simp
  generalize (w2.alloc (Obj.cells #[Value.slice A n c] 22)) = WL at *
  have hPL : RdP WL w.heap.size A l := HA.out.below hBL
  refine (wpIn_wide (n := 10)).1 ?_
  refine wpIn_rangeFunc_ownH rfl (by omega) (gf := 44) (lb := #[.pointer (some ⟨w2.heap.size, 0, none⟩)]) rfl trivial (enters_of Try.func44 (by kernel_rfl) rfl)
    (files_stops Fence.wide (10 - 1) trivial rfl (by omega) w2.heap.size w.heap.size A c l (by omega) (fun p hp => by have := hfsl p hp; omega) WL (by omega) (by omega) (by rw [hlen]; exact bS.cell) hPL) belowK_t (belowK_b (by omega)) (Below.refl _ _) (fun _ => rfl)
    (fun pre W => ((((Boxed W w.heap.size 23 (.int .u64 t) ∧ Boxed W (w.heap.size + 1) 3 (.int .i64 s)) ∧ Boxed W (w.heap.size + 1 + 1) 34 (.int .u32 m)) ∧ BoxS W (w.heap.size + 1 + 1 + 1) (kn t s m (pre.map Prod.snd)).1) ∧ Boxed W (w.heap.size + 1 + 1 + 1 + 1) 4 (.bool (kn t s m (pre.map Prod.snd)).2)) ∧ Below w.heap.size w W)
    (fun _ _ _ => False)
    (OwnFrom.and (OwnFrom.and (OwnFrom.and (OwnFrom.and (OwnFrom.and (Own.from (boxed_own _ _ _) _) (Own.from (boxed_own _ _ _) _)) (Own.from (boxed_own _ _ _) _)) (fun s' X Y row hs hg hr => hs.own hg (fun r e => (hr r e).2))) (Own.from (boxed_own _ _ _) _)) (ownFrom_below (Nat.le_refl _) (by omega)))
    (fun _ _ _ _ _ hs _ _ => hs)
    ⟨⟨⟨⟨⟨b1, b2⟩, b3⟩, b4⟩, b5⟩, hBL⟩
    (fun x a' W => ∃ Bx, w.heap.size + 1 + 1 + 1 + 1 < Bx ∧ BoxS W Bx x.2 ∧ a' = { tmps := #[.slice A n c, .int .u64 t, .int .i64 s, .int .u32 m, undef, .pointer (some ⟨w.heap.size, 0, none⟩), .pointer (some ⟨w.heap.size + 1, 0, none⟩), .pointer (some ⟨w.heap.size + 1 + 1, 0, none⟩), .pointer (some ⟨w.heap.size + 1 + 1 + 1, 0, none⟩), .pointer (some ⟨w.heap.size + 1 + 1 + 1 + 1, 0, none⟩), undef, .pointer (some ⟨Bx, 0, none⟩), .slice A n c, .bool true, .bool false, undef, .slice A n c, .func (.func 44) #[] #[.pointer (some ⟨w2.heap.size, 0, none⟩)], .int .i64 (x.1 : Int), shV x.2, undef, undef, undef, undef, undef, undef, undef, undef, undef, undef, undef, undef, undef, undef, undef, undef, undef, undef, undef], defers := [] })
    (fun x a' _ X Y row hs hg hr => by obtain ⟨Bx, e1, e2, e3⟩ := hs; exact ⟨Bx, e1, e2.own hg (fun r e => (hr r e).2), e3⟩)
    ?assign ?body ?done ?stop
  case assign =>
    rintro lp pre x W K ⟨⟨⟨⟨⟨k1, k2⟩, k3⟩, k4⟩, k5⟩, h5⟩ hK
    simp only [encN, shV]
    gi_wp2
    exact hK _ _ ((KeepsOthers.alloc _ _).from _) ((Below.refl _ W).alloc h5.size _) ⟨⟨⟨⟨⟨k1.alloc _, k2.alloc _⟩, k3.alloc _⟩, k4.grown (World.grownBy_alloc _ _ none) (by simp)⟩, k5.alloc _⟩, h5.alloc h5.size _⟩ ⟨W.heap.size, k5.lt, BoxS.new W x.2, rfl⟩
  case body =>
    rintro lp pre x a' W hlp ⟨r, hr⟩ ⟨⟨⟨⟨⟨k1, k2⟩, k3⟩, k4⟩, k5⟩, h5⟩ ⟨Bx, hBx, hxb, rfl⟩ hpl
    have c1 := k1.cell
    have c2 := k2.cell
    have c3 := k3.cell
    obtain ⟨d0, d1, d2, d3⟩ := k4.cells
    have c5 := k5.cell
    have f5 := k5.frozen
    obtain ⟨g0, g1, g2, g3⟩ := k4.frozens
    obtain ⟨y0, y1, y2, y3⟩ := hxb.cells
    have hsW := h5.size
    have hl1 := k1.lt
    have hl2 := k2.lt
    have hl3 := k3.lt
    have hl4 := k4.lt
    have hl5 := k5.lt
    have hlX := hxb.lt
    have hsn : (pre ++ [x]).map Prod.snd = pre.map Prod.snd ++ [x.2] := by simp
    obtain ⟨xi, f⟩ := x
    dsimp only at *
    have J1 := Lib.hid k1
    have J2 := Lib.hid k2
    have J3 := Lib.hid k3
    have J4 := Lib.hid k4
    have J5 := Lib.hid k5
    have H5 := Lib.hid h5
    have HSN := Lib.hid hsn
    clear k1 k2 k3 k4 k5 h5 hsn hxb hr
    by_cases hk : isK t s m f
    · have HV : Hid (kn t s m ((pre ++ [(xi, f)]).map Prod.snd) = (f, true)) := Lib.hid (by rw [HSN.out]; exact kn_yes hk)
      obtain ⟨e1, e2, e3⟩ := hk
      gi_wp2
      obtain ⟨ft, fs, fm, fn, f5', f6', f7', f8'⟩ := f
      dsimp only at e1 e2 e3
      subst e1 e2 e3
      dsimp only
      have hk := fun k (h1 : k ≠ w.heap.size + 1 + 1 + 1) (h2 : k ≠ w.heap.size + 1 + 1 + 1 + 1) => set5 W (w.heap.size + 1 + 1 + 1) (w.heap.size + 1 + 1 + 1 + 1) (.int .u64 ft) (.int .i64 fs) (.int .u32 fm) (.int .u64 fn) (.bool true) k h1 h2
      have hb4 := BoxS.set4 J4.out ⟨ft, fs, fm, fn, f5', f6', f7', f8'⟩
      refine ⟨KeepsFrom.trans (((((KeepsOthers.setCell _ _ _).trans (KeepsOthers.setCell _ _ _)).trans (KeepsOthers.setCell _ _ _)).trans (KeepsOthers.setCell _ _ _)).from _) ((KeepsOthers.setCell _ _ _).from _), ?_, ⟨⟨⟨⟨⟨?_, ?_⟩, ?_⟩, ?_⟩, ?_⟩, ?_⟩⟩
      · exact (((((Below.refl _ W).setCell (by dsimp only; omega) _).setCell (by dsimp only; omega) _).setCell (by dsimp only; omega) _).setCell (by dsimp only; omega) _).setCell (by dsimp only; omega) _
      · exact (hk _ (by omega) (by omega)).trans J1.out
      · exact (hk _ (by omega) (by omega)).trans J2.out
      · exact (hk _ (by omega) (by omega)).trans J3.out
      · rw [HV.out]
        exact (Below.heap_setCell _ _ _ _ (by dsimp only; omega)).trans hb4
      · rw [HV.out]
        exact Boxed.set _ (show Boxed _ _ 4 (.bool (kn ft fs fm (pre.map Prod.snd)).2) from (set4k W (w.heap.size + 1 + 1 + 1) _ _ _ _ _ (by omega)).trans J5.out)
      · exact ((((H5.out.setCell (by dsimp only; omega) _).setCell (by dsimp only; omega) _).setCell (by dsimp only; omega) _).setCell (by dsimp only; omega) _).setCell (by dsimp only; omega) _
    · have HV : Hid (kn t s m ((pre ++ [(xi, f)]).map Prod.snd) = kn t s m (pre.map Prod.snd)) := Lib.hid (by rw [HSN.out]; exact kn_no hk)
      have hpr : ¬ f.tb = t ∨ (f.tb = t ∧ ¬ f.sz = s) ∨ (f.tb = t ∧ f.sz = s ∧ ¬ f.sm = m) := by
        by_cases q1 : f.tb = t
        · by_cases q2 : f.sz = s
          · exact .inr (.inr ⟨q1, q2, fun q3 => hk ⟨q1, q2, q3⟩⟩)
          · exact .inr (.inl ⟨q1, q2⟩)
        · exact .inl q1
      clear hk
      rcases hpr with hne | ⟨hq1, hne⟩ | ⟨hq1, hq2, hne⟩
      · gi_wp2
        exact ⟨KeepsFrom.refl _ _, Below.refl _ _, ⟨⟨⟨⟨⟨J1.out, J2.out⟩, J3.out⟩, by rw [HV.out]; exact J4.out⟩, by rw [HV.out]; exact J5.out⟩, H5.out⟩⟩
      · gi_wp2
        exact ⟨KeepsFrom.refl _ _, Below.refl _ _, ⟨⟨⟨⟨⟨J1.out, J2.out⟩, J3.out⟩, by rw [HV.out]; exact J4.out⟩, by rw [HV.out]; exact J5.out⟩, H5.out⟩⟩
      · gi_wp2
        exact ⟨KeepsFrom.refl _ _, Below.refl _ _, ⟨⟨⟨⟨⟨J1.out, J2.out⟩, J3.out⟩, by rw [HV.out]; exact J4.out⟩, by rw [HV.out]; exact J5.out⟩, H5.out⟩⟩
  case done =>
    rintro D ys W hD rfl ⟨⟨⟨⟨⟨k1, k2⟩, k3⟩, k4⟩, k5⟩, h5⟩ hK
    have hq : kn t s m ((flat 0 l).map Prod.snd) = kn t s m (allF l) := rfl
    generalize kn t s m ((flat 0 l).map Prod.snd) = q at k4 k5 hq
    obtain ⟨⟨ft, fs, fm, fn, f5', f6', f7', f8'⟩, qb⟩ := q
    have HQ := Lib.hid hq
    clear hq
    dsimp only at k4 k5
    obtain ⟨d0, d1, d2, d3⟩ := k4.cells
    obtain ⟨g0, g1, g2, g3⟩ := k4.frozens
    have c5 := k5.cell
    have f5 := k5.frozen
    have J4 := Lib.hid k4
    have J5 := Lib.hid k5
    have H5 := Lib.hid h5
    have HK := Lib.hid hK
    have hl4 := k4.lt
    have hl5 := k5.lt
    clear k1 k2 k3 k4 k5 h5 hK b1 b2 b3 b4 b5
    dsimp only at *
    go_wp2_with (fail)
    go_region
    go_wp2_with (fail)
    have hb4 := BoxS.set4 J4.out ⟨ft, fs, fm, fn, f5', f6', f7', f8'⟩
    have hb4' := BoxS.kw hb4 (Below.setCell (Below.refl (w.heap.size + 1 + 1 + 1 + 1) _) (p := ⟨w.heap.size + 1 + 1 + 1 + 1, 0, none⟩) (Nat.le_refl _) (.bool qb)) (by omega)
    have hb5 : Boxed (((((W.setCell ⟨w.heap.size + 1 + 1 + 1, 0, none⟩ (.int .u64 ft)).setCell ⟨w.heap.size + 1 + 1 + 1, 1, none⟩ (.int .i64 fs)).setCell ⟨w.heap.size + 1 + 1 + 1, 2, none⟩ (.int .u32 fm)).setCell ⟨w.heap.size + 1 + 1 + 1, 3, none⟩ (.int .u64 fn)).setCell ⟨w.heap.size + 1 + 1 + 1 + 1, 0, none⟩ (.bool qb)) (w.heap.size + 1 + 1 + 1 + 1) 4 (.bool qb) :=
      Boxed.set _ (show Boxed _ _ 4 (.bool qb) from (set4k W (w.heap.size + 1 + 1 + 1) _ _ _ _ _ (by omega)).trans J5.out)
    have hK' := (set5 W (w.heap.size + 1 + 1 + 1) (w.heap.size + 1 + 1 + 1 + 1) (.int .u64 ft) (.int .i64 fs) (.int .u32 fm) (.int .u64 fn) (.bool qb) D (by omega) (by omega)).trans HK.out
    have hbb : Below w.heap.size w (((((W.setCell ⟨w.heap.size + 1 + 1 + 1, 0, none⟩ (.int .u64 ft)).setCell ⟨w.heap.size + 1 + 1 + 1, 1, none⟩ (.int .i64 fs)).setCell ⟨w.heap.size + 1 + 1 + 1, 2, none⟩ (.int .u32 fm)).setCell ⟨w.heap.size + 1 + 1 + 1, 3, none⟩ (.int .u64 fn)).setCell ⟨w.heap.size + 1 + 1 + 1 + 1, 0, none⟩ (.bool qb)) :=
      ((((H5.out.setCell (by dsimp only; omega) _).setCell (by dsimp only; omega) _).setCell (by dsimp only; omega) _).setCell (by dsimp only; omega) _).setCell (by dsimp only; omega) _
    generalize (((((W.setCell ⟨w.heap.size + 1 + 1 + 1, 0, none⟩ (.int .u64 ft)).setCell ⟨w.heap.size + 1 + 1 + 1, 1, none⟩ (.int .i64 fs)).setCell ⟨w.heap.size + 1 + 1 + 1, 2, none⟩ (.int .u32 fm)).setCell ⟨w.heap.size + 1 + 1 + 1, 3, none⟩ (.int .u64 fn)).setCell ⟨w.heap.size + 1 + 1 + 1 + 1, 0, none⟩ (.bool qb)) = W5 at *
    have hK6 : W5.drew.heap[D]? = some (Obj.deferred (some [])) := hK'
    refine ⟨by simp, .inl ⟨_, _, rfl, run_takeDeferred hK6, ?_⟩⟩
    obtain ⟨z0, z1, z2, z3⟩ := hb4'.cells
    have hgp := grownBy_putObj' W5.drew D (.deferred none)
    have hne : ∀ r, some D = some r → ∃ o : Obj, W5.drew.heap[r]? = some o ∧ o.isCells = false := fun r e => by cases e; exact ⟨_, hK6, rfl⟩
    have z0 := cell_kept (W := W5.drew) z0 hgp hne
    have z1 := cell_kept (W := W5.drew) z1 hgp hne
    have z2 := cell_kept (W := W5.drew) z2 hgp hne
    have z3 := cell_kept (W := W5.drew) z3 hgp hne
    have z5 := cell_kept (W := W5.drew) hb5.cell hgp hne
    refine ⟨.tuple #[shV ⟨ft, fs, fm, fn, f5', f6', f7', f8'⟩, .bool qb], ?_, by rw [← HQ.out], (hbb.drew).trans (belowK_b (w := WL) (by omega) W5.drew D _ _ hD hK6 rfl rfl)⟩
    simp [results, Try.f22, go_sem, z0, z1, z2, z3, z5, shV]
  case stop =>
    rintro D cd pre W _ _ h _
    exact h.elim
set_option maxRecDepth 100000 in
set_option maxHeartbeats 4000000 in
theorem known_wrong (A : Option Addr) (n c : Nat) (l : List Pt) (t s m : Int) (w : World) (hl : l.length = n) (hA : RdP w w.heap.size A l) (hr : ¬ RightP l) :
    Calls Try.prog 22 #[.slice A n c, .int .u64 t, .int .i64 s, .int .u32 m] w fun e w' => e = .returned (.tuple #[shV zeroS, .bool false]) ∧ Below w.heap.size w w' := by
  have hrt := rightB_f hr
  have hR := fun (w' : World) (h : Below w.heap.size w w') => right_any A c l w' ((hA.below h).more h.size (Nat.le_refl _))
  rw [hl, hrt] at hR
  have HR := Lib.hid hR
  have HA := Lib.hid hA
  have HLN := Lib.hid hl
  clear hrt hR hA hr hl
  refine (callsIn_wide (n := 10)).1 ?_
  refine callsIn_of_wp_marks Try.func22 rfl trivial ?_ rfl
  refine wpIn_wide.2 ?_
  simp only [Try.ntmps22, List.size_toArray, List.length_cons, List.length_nil, Nat.reduceAdd, Nat.reduceSub, Array.replicate_succ, Array.replicate_zero, List.push_toArray, List.append_toArray, List.nil_append, List.cons_append]
  go_wp2_with (fail)
  obtain ⟨WA, hWA⟩ : ∃ WA, WA = ((((w.alloc (Obj.cells #[.int .u64 t] 23)).alloc (Obj.cells #[.int .i64 s] 3)).alloc (Obj.cells #[.int .u32 m] 34)).alloc (Obj.cells #[.int .u64 0, .int .i64 0, .int .u32 0, .int .u64 0] 36)).alloc (Obj.cells #[.bool false] 4) := ⟨_, rfl⟩
  have b1 : Boxed WA w.heap.size 23 (.int .u64 t) := by rw [hWA]; exact ((((Boxed.new w 23 (.int .u64 t)).alloc _).alloc _).alloc _).alloc _
  have b2 : Boxed WA (w.heap.size + 1) 3 (.int .i64 s) := by rw [hWA]; simpa using (((Boxed.new (w.alloc (Obj.cells #[.int .u64 t] 23)) 3 (.int .i64 s)).alloc (Obj.cells #[.int .u32 m] 34)).alloc (Obj.cells #[.int .u64 0, .int .i64 0, .int .u32 0, .int .u64 0] 36)).alloc (Obj.cells #[.bool false] 4)
  have b3 : Boxed WA (w.heap.size + 1 + 1) 34 (.int .u32 m) := by rw [hWA]; simpa using ((Boxed.new ((w.alloc (Obj.cells #[.int .u64 t] 23)).alloc (Obj.cells #[.int .i64 s] 3)) 34 (.int .u32 m)).alloc (Obj.cells #[.int .u64 0, .int .i64 0, .int .u32 0, .int .u64 0] 36)).alloc (Obj.cells #[.bool false] 4)
  have b4 : BoxS WA (w.heap.size + 1 + 1 + 1) zeroS := by
    rw [hWA]
    have h := (BoxS.new (((w.alloc (Obj.cells #[.int .u64 t] 23)).alloc (Obj.cells #[.int .i64 s] 3)).alloc (Obj.cells #[.int .u32 m] 34)) zeroS).grown (World.grownBy_alloc _ (Obj.cells #[.bool false] 4) none) (by simp)
    simp only [World.size_alloc] at h
    exact h
  have b5 : Boxed WA (w.heap.size + 1 + 1 + 1 + 1) 4 (.bool false) := by rw [hWA]; simpa using Boxed.new ((((w.alloc (Obj.cells #[.int .u64 t] 23)).alloc (Obj.cells #[.int .i64 s] 3)).alloc (Obj.cells #[.int .u32 m] 34)).alloc (Obj.cells #[.int .u64 0, .int .i64 0, .int .u32 0, .int .u64 0] 36)) 4 (.bool false)
  have hbA : Below w.heap.size w WA := by rw [hWA]; exact bl_alloc (bl_alloc (bl_alloc (bl_alloc (bl_alloc (Below.refl _ _) _) _) _) _) _
  have hsA : WA.heap.size = w.heap.size + 5 := by rw [hWA]; simp
  rw [← hWA]
  clear hWA
  refine (HR.out _ hbA).mono ?_
  rintro e w2 ⟨rfl, hb2⟩
  have hs2 := hb2.size
  have b1 : Boxed w2 w.heap.size 23 (.int .u64 t) := (hb2.block _ (by omega)).trans b1
  have b2 : Boxed w2 (w.heap.size + 1) 3 (.int .i64 s) := (hb2.block _ (by omega)).trans b2
  have b3 : Boxed w2 (w.heap.size + 1 + 1) 34 (.int .u32 m) := (hb2.block _ (by omega)).trans b3
  have b4 : BoxS w2 (w.heap.size + 1 + 1 + 1) zeroS := b4.kw hb2 (by omega)
  have b5 : Boxed w2 (w.heap.size + 1 + 1 + 1 + 1) 4 (.bool false) := (hb2.block _ (by omega)).trans b5
  have HB2 := Lib.hid (bl_then hbA hb2)
  have B1 := Lib.hid b1
  have B2 := Lib.hid b2
  have B3 := Lib.hid b3
  have B4 := Lib.hid b4
  have B5 := Lib.hid b5
  clear b1 b2 b3 b4 b5 hbA hb2
  obtain ⟨d0, d1, d2, d3⟩ := B4.out.cells
  obtain ⟨g0, g1, g2, g3⟩ := B4.out.frozens
  have c5 := B5.out.cell
  have f5 := B5.out.frozen
  have hl4 := B4.out.lt
  have hl5 := B5.out.lt
  unfold zeroS at d0 d1 d2 d3
  dsimp only at d0 d1 d2 d3
  go_wp2_with (fail)
  have hb4 := BoxS.set4 B4.out zeroS
  have hb4' := BoxS.kw hb4 (Below.setCell (Below.refl (w.heap.size + 1 + 1 + 1 + 1) _) (p := ⟨w.heap.size + 1 + 1 + 1 + 1, 0, none⟩) (Nat.le_refl _) (.bool false)) (by omega)
  have hb5 : Boxed (((((w2.setCell ⟨w.heap.size + 1 + 1 + 1, 0, none⟩ (.int .u64 0)).setCell ⟨w.heap.size + 1 + 1 + 1, 1, none⟩ (.int .i64 0)).setCell ⟨w.heap.size + 1 + 1 + 1, 2, none⟩ (.int .u32 0)).setCell ⟨w.heap.size + 1 + 1 + 1, 3, none⟩ (.int .u64 0)).setCell ⟨w.heap.size + 1 + 1 + 1 + 1, 0, none⟩ (.bool false)) (w.heap.size + 1 + 1 + 1 + 1) 4 (.bool false) :=
    Boxed.set _ (show Boxed _ _ 4 (.bool false) from (set4k w2 (w.heap.size + 1 + 1 + 1) _ _ _ _ _ (by omega)).trans B5.out)
  have hbb : Below w.heap.size w (((((w2.setCell ⟨w.heap.size + 1 + 1 + 1, 0, none⟩ (.int .u64 0)).setCell ⟨w.heap.size + 1 + 1 + 1, 1, none⟩ (.int .i64 0)).setCell ⟨w.heap.size + 1 + 1 + 1, 2, none⟩ (.int .u32 0)).setCell ⟨w.heap.size + 1 + 1 + 1, 3, none⟩ (.int .u64 0)).setCell ⟨w.heap.size + 1 + 1 + 1 + 1, 0, none⟩ (.bool false)) :=
    ((((HB2.out.setCell (by dsimp only; omega) _).setCell (by dsimp only; omega) _).setCell (by dsimp only; omega) _).setCell (by dsimp only; omega) _).setCell (by dsimp only; omega) _
  unfold zeroS at hb4'
  dsimp only at hb4'
  generalize (((((w2.setCell ⟨w.heap.size + 1 + 1 + 1, 0, none⟩ (.int .u64 0)).setCell ⟨w.heap.size + 1 + 1 + 1, 1, none⟩ (.int .i64 0)).setCell ⟨w.heap.size + 1 + 1 + 1, 2, none⟩ (.int .u32 0)).setCell ⟨w.heap.size + 1 + 1 + 1, 3, none⟩ (.int .u64 0)).setCell ⟨w.heap.size + 1 + 1 + 1 + 1, 0, none⟩ (.bool false)) = W5 at *
  obtain ⟨z0, z1, z2, z3⟩ := hb4'.cells
  have z5 := hb5.cell
  refine ⟨.tuple #[shV zeroS, .bool false], ?_, rfl, hbb⟩
  simp [results, Try.f22, go_sem, z0, z1, z2, z3, z5, shV, zeroS]
open Classical in
/-- What is known. -/
noncomputable def knownL (l : List Pt) (t s m : Int) : Sh × Bool := if RightP l then kn t s m (allF l) else (zeroS, false)
theorem known_any (A : Option Addr) (c : Nat) (l : List Pt) (t s m : Int) (w : World) (hA : RdP w w.heap.size A l) :
    Calls Try.prog 22 #[.slice A l.length c, .int .u64 t, .int .i64 s, .int .u32 m] w fun e w' => e = .returned (.tuple #[shV (knownL l t s m).1, .bool (knownL l t s m).2]) ∧ Below w.heap.size w w' := by
  unfold knownL
  split
  · rename_i h
    exact known_right A l.length c l t s m w rfl hA h
  · rename_i h
    exact known_wrong A l.length c l t s m w rfl hA h
end Go.Proofs.Ytmalcekbhnkfgaa
namespace Go.Proofs.Ytmalcekbhnkfgaa
open Go.RowKit Go.Maps
set_option linter.unusedVariables false
set_option linter.unusedSimpArgs false

theorem own_ge {w : World} {B n sz : Nat} {e : TypeId} {v : Value} {xs : List Value} (h : w.ownsRow B e sz v n xs) : ∀ g, v.ownBlock = some g → B ≤ g := fun g hg => (h.lt g hg).1
theorem own_lt {w : World} {B n sz : Nat} {e : TypeId} {v : Value} {xs : List Value} (h : w.ownsRow B e sz v n xs) : ∀ g, v.ownBlock = some g → g < w.heap.size := fun g hg => (h.lt g hg).2
theorem own_new {w w' : World} {B n sz : Nat} {e : TypeId} {v : Value} {xs : List Value} (h : w.ownsRow B e sz v n xs) (k : Below w.heap.size w w') : w'.ownsRow B e sz v n xs := by
  refine ⟨h.1, ?_⟩
  rcases h.2 with h0 | ⟨g, c, cur, rfl, hb2, hg, r⟩
  · exact .inl h0
  · exact .inr ⟨g, c, cur, rfl, hb2, (k.block g (Array.getElem?_eq_some_iff.1 hg).1).trans hg, r⟩
theorem own_le {w : World} {B B' s n : Nat} {e : TypeId} {v : Value} {xs : List Value} (h : w.ownsRow B e s v n xs) (hb : B' ≤ B) : w.ownsRow B' e s v n xs := by
  refine ⟨h.1, ?_⟩
  rcases h.2 with h0 | ⟨g, c, cur, rfl, hb2, r⟩
  · exact .inl h0
  · exact .inr ⟨g, c, cur, rfl, by omega, r⟩
/-- From the address A on, in a block below B, the numbers stand. -/
def RdI (w : World) (B : Nat) (A : Option Addr) (l : List Int) : Prop :=
  (0 < l.length → ∃ b off, A = some ⟨b, off, none⟩ ∧ b < B ∧ B ≤ w.heap.size ∧ ∀ i, i < l.length → w.cell? ⟨b, off + i, none⟩ = some (.int .u64 (l.getD i 0))) ∧ ∀ x ∈ l, (Lit.int .u64 x).wf = true
theorem RdI.below {w w' : World} {B : Nat} {A : Option Addr} {l : List Int} (h : RdI w B A l) (k : Below B w w') : RdI w' B A l := by
  refine ⟨fun hl => ?_, h.2⟩
  obtain ⟨b, off, e, hb, hB, hc⟩ := h.1 hl
  exact ⟨b, off, e, hb, Nat.le_trans hB k.size, fun i hi => (k.cell (p := ⟨b, _, none⟩) hb).trans (hc i hi)⟩
theorem RdI.more {w : World} {B B' : Nat} {A : Option Addr} {l : List Int} (h : RdI w B A l) (h1 : B ≤ B') (h2 : B' ≤ w.heap.size) : RdI w B' A l := by
  refine ⟨fun hl => ?_, h.2⟩
  obtain ⟨b, off, e, hb, hB, hc⟩ := h.1 hl
  exact ⟨b, off, e, by omega, h2, hc⟩
theorem getI {l : List Int} {i : Nat} (h : i < l.length) : l.getD i 0 = l[i] := by rw [List.getD_eq_getElem?_getD, List.getElem?_eq_getElem h]; rfl
theorem take_snocI {l : List Int} {i : Nat} (h : i < l.length) : l.take (i + 1) = l.take i ++ [l.getD i 0] := by
  rw [getI h, List.take_succ_eq_append_getElem h]
/-- The numbers as cells. -/
def icells (l : List Int) : List Value := l.map (fun x => .int .u64 x)
theorem i23 : (Try.prog.info? 23).map (fun i => (i.zero, i.size, i.bytes)) = some (some (.int .u64 0), 1, 8) := by kernel_rfl
theorem u38 : Try.prog.underlying 38 = some (.slice 23) := by kernel_rfl
/-- Those that are not in L. -/
def notIn (L ss : List Int) : List Int := ss.filter (fun x => decide (x ∉ L))
theorem notIn_snoc (L ss : List Int) (x : Int) : notIn L (ss ++ [x]) = if x ∈ L then notIn L ss else notIn L ss ++ [x] := by
  unfold notIn
  rw [List.filter_append]
  by_cases h : x ∈ L
  · simp [h]
  · simp [h]
theorem notIn_length (L ss : List Int) : (notIn L ss).length ≤ ss.length := List.length_filter_le _ _
set_option maxRecDepth 100000 in
set_option maxHeartbeats 4000000 in
theorem loose_any (A : Option Addr) (c : Nat) (l : List Pt) (As : Option Addr) (ns cs : Nat) (ss : List Int) (w : World) (hA : RdP w w.heap.size A l) (hS : RdI w w.heap.size As ss) (hls : ss.length = ns) (hn : ns ≤ 1000000) :
    Calls Try.prog 20 #[.slice A l.length c, .slice As ns cs] w fun e w' => ∃ vo, e = .returned vo ∧ w'.ownsRow w.heap.size 23 1 vo (notIn (cntL l) ss).length (icells (notIn (cntL l) ss)) ∧ Below w.heap.size w w' := by
  obtain ⟨i0, hi, hz0, hz1, hz2⟩ := info_parts i23
  have HC := Lib.hid (counted_any A c l w hA)
  have HS := Lib.hid hS
  have HLS := Lib.hid hls
  generalize cntL l = L at *
  generalize l.length = n at *
  clear hA hS hls
  go_enter Try.func20, Try.ntmps20
  go_wp2_with (fail)
  refine HC.out.mono ?_
  rintro e w1 ⟨rfl, hc1, hb1⟩
  have HC1 := Lib.hid hc1
  have HB1 := Lib.hid hb1
  have hs1 := hb1.size
  have hm1 := hc1.lt
  clear hc1 hb1
  go_wp2_with (fail)
  go_loopw [6, 13] (fun vo vi wr => ∃ i : Nat, i ≤ ns ∧ vi = .int .i64 i ∧ wr.ownsRow w1.heap.size 23 1 vo (notIn L (ss.take i)).length (icells (notIn L (ss.take i))) ∧ CntAt wr w.heap.size L ∧ Below w1.heap.size w1 wr) (fun _ i _ => ns - (intOf i).toNat)
  case atStart => exact ⟨0, Nat.zero_le _, rfl, ⟨rfl, .inl ⟨rfl, rfl⟩⟩, HC1.out, Below.refl _ _⟩
  case round =>
    obtain ⟨i, hin, rfl, hown, hcn, hbl⟩ := hrel
    have HOWN := Lib.hid hown
    have HCN := Lib.hid hcn
    have HBL := Lib.hid hbl
    have hws := hbl.size
    have hmw := hcn.lt
    by_cases hi' : i < ns
    · have hi0 : (0 : Int) ≤ (i : Int) := by omega
      have hi1 : (i : Int) < (ns : Int) := by omega
      obtain ⟨b, off, rfl, hb, _, hc⟩ := HS.out.1 (by rw [HLS.out]; omega)
      have a0 := hc i (by rw [HLS.out]; exact hi')
      have hwf := HS.out.2 (ss.getD i 0) (by rw [getI (by rw [HLS.out]; exact hi')]; exact List.getElem_mem _)
      have hsn := take_snocI (l := ss) (i := i) (by rw [HLS.out]; exact hi')
      obtain ⟨x, hx⟩ : ∃ x, ss.getD i 0 = x := ⟨_, rfl⟩
      rw [hx] at a0 hwf hsn
      have a0 := ((HB1.out.trans (hbl.mono hs1)).cell (p := ⟨b, off + i, none⟩) hb).trans a0
      have hbw : b < wr.heap.size := by omega
      have hnl : (notIn L (ss.take i)).length ≤ i := by have := notIn_length L (ss.take i); rw [List.length_take] at this; omega
      have HSN := Lib.hid hsn
      have HWF := Lib.hid hwf
      have HNL := Lib.hid hnl
      clear hc hx hsn hown hcn hbl hnl hwf
      go_wp2_with ((at_lookup; refine Hid.out ?_))
      refine Lib.hid ?_
      refine wpList_look_cnt _ (by rfl) _ _ rfl w.heap.size L HCN.out rfl x HWF.out rfl ?_
      by_cases hxL : x ∈ L
      · have hq : 0 < L.count x := List.count_pos_iff.2 hxL
        obtain ⟨q, hqe⟩ : ∃ q, L.count x = q := ⟨_, rfl⟩
        rw [hqe] at hq ⊢
        have hq0 : ¬ ((q : Int) = 0) := by omega
        have HE : Hid (notIn L (ss.take (i + 1)) = notIn L (ss.take i)) := Lib.hid (by rw [HSN.out, notIn_snoc, if_pos hxL])
        clear hqe hxL hq
        go_wp2_with (fail)
        go_roundw
        case rel => exact ⟨i + 1, by omega, by first | rfl | (push_cast; rfl) | go_num, by rw [HE.out]; exact HOWN.out, HCN.out, HBL.out⟩
        case measure => simp [intOf]; omega
      · have hq : L.count x = 0 := List.count_eq_zero.2 hxL
        rw [hq]
        have HE : Hid (notIn L (ss.take (i + 1)) = notIn L (ss.take i) ++ [x]) := Lib.hid (by rw [HSN.out, notIn_snoc, if_neg hxL])
        clear hxL hq
        go_wp2_with ((at_builtin; refine Hid.out ?_))
        refine Lib.hid ?_
        have hbA : Below wr.heap.size wr (wr.alloc (Obj.cells #[Value.int .u64 x] 23)) := bl_alloc (Below.refl _ _) _
        refine wpList_append_own _ rfl _ _ 38 rfl w1.heap.size 23 i0 (.int .u64 0) 1 8 u38 hi hz0 hz1 hz2 rfl (by decide) _ (notIn L (ss.take i)).length (icells (notIn L (ss.take i))) rfl (own_new HOWN.out hbA) ⟨wr.heap.size, 0, none⟩ 1 1 [.int .u64 x] rfl rfl (cell_one_new _ _ _) (by simp [Value.oneCell']) (by have := HNL.out; unfold maxLen; omega) (by have := HNL.out; omega) (by simp; omega) ?_
        intro v' w2 hown2 hgrow2 _
        have hb2 : Below w1.heap.size w1 w2 := (HBL.out.trans (hbA.mono hws)).grown hgrow2 (by simp; omega) (own_ge HOWN.out)
        have hc2 : CntAt w2 w.heap.size L := (HCN.out.below hbA (by omega)).grown hgrow2 (fun e => by have := own_ge HOWN.out _ e.symm; omega)
        have HO2 : Hid (w2.ownsRow w1.heap.size 23 1 v' (notIn L (ss.take (i + 1))).length (icells (notIn L (ss.take (i + 1))))) := Lib.hid (by
          rw [HE.out]
          simpa [icells] using hown2)
        have HB2 := Lib.hid hb2
        have HC2 := Lib.hid hc2
        clear hown2 hgrow2 hb2 hc2 hbA
        go_wp2_with (fail)
        go_roundw
        case rel => exact ⟨i + 1, by omega, by first | rfl | (push_cast; rfl) | go_num, HO2.out, HC2.out, HB2.out⟩
        case measure => simp [intOf]; omega
    · have hine : i = ns := by omega
      subst hine
      have hirr : ¬ (i : Int) < (i : Int) := by omega
      have HO : Hid (wr.ownsRow w.heap.size 23 1 u6 (notIn L ss).length (icells (notIn L ss))) := Lib.hid (by
        have h := own_le HOWN.out hs1
        rwa [List.take_of_length_le (by rw [HLS.out]; exact Nat.le_refl _)] at h)
      clear hown hcn hbl
      go_wp2_with (fail)
      go_ret
      exact ⟨_, rfl, HO.out, HB1.out.trans (HBL.out.mono hs1)⟩
end Go.Proofs.Ytmalcekbhnkfgaa
