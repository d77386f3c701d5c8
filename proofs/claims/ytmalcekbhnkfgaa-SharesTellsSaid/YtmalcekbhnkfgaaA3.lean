/- Shares, points, and maps that count, as words. Conditions: as each theorem states them. -/
import Derived.Test.YtmalcekbhnkfgaaProg
import Derived.WalkKit
import Derived.WalkLawsBesides
import Derived.WalkSpells
import Derived.Deep.QuietTactic
import Derived.BigQuiet
import Derived.Lib.Hide
import Derived.Maps.OwnSet
import Derived.Maps.OwnOps
import Derived.Carry
import Derived.Deep.DeepFit
import Derived.Deep.DeepMust
import Derived.Laws.EntriesVeiled
import Derived.StillTailTactics
import Derived.Deep.RegionHeld3
import Derived.Deep.RegionWith
import Derived.RangeFuncNested
import Derived.RangeFuncBound
import Derived.RangeFuncCalls
import Derived.RangeFuncLeaves
import Derived.Shelf.Abstract
import Derived.Shelf.RegionOpen
import Derived.OwnWalkIn
import Derived.TacticsInMore
import Derived.LoopNIn
import Derived.LoopIn
namespace Go.Proofs.Ytmalcekbhnkfgaa
open Go.RowKit Go.Maps
set_option linter.unusedVariables false
set_option linter.unusedSimpArgs false

theorem bl_alloc {w W : World} (h : Below w.heap.size w W) (o : Obj) : Below w.heap.size w (W.alloc o) := h.alloc h.size o
theorem bl_then {w W W' : World} (h : Below w.heap.size w W) (k : Below W.heap.size W W') : Below w.heap.size w W' := h.trans (k.mono h.size)
theorem bl_drewN {B : Nat} {a w : World} (h : Below B a w) (n : Nat) : Below B a (w.drewN n) := ⟨h.os, h.tape, h.output, h.size, h.block⟩
/-- The world keeps its blocks, but those of S. -/
structure Kw (S : Nat → Prop) (w w' : World) : Prop where
  os : w'.os = w.os
  tape : w'.tape = w.tape
  output : w'.output = w.output
  size : w.heap.size ≤ w'.heap.size
  block : ∀ b, b < w.heap.size → ¬ S b → w'.heap[b]? = w.heap[b]?
theorem Kw.refl (S : Nat → Prop) (w : World) : Kw S w w := ⟨rfl, rfl, rfl, Nat.le_refl _, fun _ _ _ => rfl⟩
theorem Kw.trans {S : Nat → Prop} {a b c : World} (h : Kw S a b) (k : Kw S b c) : Kw S a c :=
  ⟨k.os.trans h.os, k.tape.trans h.tape, k.output.trans h.output, Nat.le_trans h.size k.size, fun i hi hs => (k.block i (Nat.lt_of_lt_of_le hi h.size) hs).trans (h.block i hi hs)⟩
theorem Kw.mono {S T : Nat → Prop} {w w' : World} (h : Kw S w w') (hST : ∀ b, b < w.heap.size → S b → T b) : Kw T w w' :=
  ⟨h.os, h.tape, h.output, h.size, fun i hi hs => h.block i hi (fun hS => hs (hST i hi hS))⟩
theorem Kw.ofBelow {S : Nat → Prop} {w w' : World} (h : Below w.heap.size w w') : Kw S w w' := ⟨h.os, h.tape, h.output, h.size, fun b hb _ => h.block b hb⟩
theorem Kw.setCell {S : Nat → Prop} {a w : World} (h : Kw S a w) {p : Addr} (hp : S p.block) (v : Value) : Kw S a (w.setCell p v) :=
  ⟨h.os, h.tape, h.output, by simpa [World.setCell] using h.size, fun b hb hs => (Below.heap_setCell w p v b (fun e => hs (e ▸ hp))).trans (h.block b hb hs)⟩
theorem Kw.drew {S : Nat → Prop} {a w : World} (h : Kw S a w) : Kw S a w.drew := ⟨h.os, h.tape, h.output, h.size, h.block⟩
theorem Kw.drewN {S : Nat → Prop} {a w : World} (h : Kw S a w) (n : Nat) : Kw S a (w.drewN n) := h.trans (Kw.ofBelow (bl_drewN (Below.refl _ _) n))
theorem Kw.alloc {S : Nat → Prop} {a w : World} (h : Kw S a w) (o : Obj) : Kw S a (w.alloc o) := h.trans (Kw.ofBelow (bl_alloc (Below.refl _ _) o))
theorem Kw.grown {S : Nat → Prop} {a w w' : World} {row : Option Nat} (h : Kw S a w) (g : w.grownBy w' row) (hr : ∀ k, row = some k → S k) : Kw S a w' :=
  h.trans ⟨g.os, g.tape, g.output, g.size, fun i hi hs => g.block i hi (fun e => hs (hr i e.symm))⟩
theorem Kw.below {S : Nat → Prop} {w w' : World} {B : Nat} (h : Kw S w w') (hB : B ≤ w.heap.size) (hS : ∀ b, S b → B ≤ b) : Below B w w' :=
  ⟨h.os, h.tape, h.output, h.size, fun b hb => h.block b (by omega) (fun hs => by have := hS b hs; omega)⟩
theorem Kw.cell {S : Nat → Prop} {w w' : World} (h : Kw S w w') {b i : Nat} (hb : b < w.heap.size) (hs : ¬ S b) : w'.cell? ⟨b, i, none⟩ = w.cell? ⟨b, i, none⟩ := World.cell?_of_block (h.block b hb hs)
theorem Kw.frozen {S : Nat → Prop} {w w' : World} (h : Kw S w w') {b i : Nat} (hb : b < w.heap.size) (hs : ¬ S b) : w'.frozen? ⟨b, i, none⟩ = w.frozen? ⟨b, i, none⟩ := World.frozen?_of_block (h.block b hb hs)
/-! Regions that draw their order, read, and call functions that make memory of their own: the worlds that are as w was below w's size. -/
def Ext (w : World) : Type := { w' : World // Below w.heap.size w w' }
instance (w : World) : Nonempty (Ext w) := ⟨⟨w, Below.refl _ _⟩⟩
theorem Ext.bl {w : World} (x : Ext w) : Below w.heap.size w x.val := x.property

section
variable {P : Program} {w : World}
theorem ext_calls {f : FuncId} {args : Array Value} {x : Ext w} {v : Value} (h : Calls P f args x.val fun e w' => e = .returned v ∧ Below x.val.heap.size x.val w') :
    Calls P f args x.val fun e w'' => e = .returned v ∧ ∃ y : Ext w, w'' = y.val :=
  h.mono fun _ w'' ⟨he, hb⟩ => ⟨he, ⟨w'', x.bl.trans (hb.mono x.bl.size)⟩, rfl⟩
theorem ext_calls_same {f : FuncId} {args : Array Value} {x : Ext w} {v : Value} (h : Calls P f args x.val fun e w' => e = .returned v ∧ x.val = w') :
    Calls P f args x.val fun e w'' => e = .returned v ∧ ∃ y : Ext w, w'' = y.val :=
  h.mono fun _ _ ⟨he, hb⟩ => ⟨he, x, hb.symm⟩
theorem ext_cell {p : Addr} {v : Value} (h : w.cell? p = some v) : ∀ x : Ext w, x.val.cell? p = some v := fun x => (x.bl.cell (World.block_lt_of_cell? w p h)).trans h

theorem wp_region_ext {id : Nat} {Q : Exit → Act → World → Prop} {a : Act} {l : List Oper} (hm : P.follows .mixedOrders = true) (hB : Region.lexB .any l.toArray = true)
    (h : wpQuiet P l.toArray (fun w' => ∃ x : Ext w, w' = x.val) (fun a' => ∀ w', (∃ x : Ext w, w' = x.val) → Q .normal a' w') l a) : (Code.region id l.toArray true).wp P Q a w :=
  wp_region_quiet (C := fun w' => ∃ x : Ext w, w' = x.val) hm hB ⟨⟨w.drew, (Below.refl _ _).drew⟩, rfl⟩ (by simpa using h)
end
/-- The world of a goal under a letter, with what is known of it. -/
theorem absW {G : World → Prop} {W : World} (F : World → Prop) (hF : F W) (h : ∀ w, F w → G w) : G W := h W hF

/-- A file that points share. -/
structure Sh where
  tb : Int
  sz : Int
  sm : Int
  nm : Int
  wt : (Lit.int .u64 tb).wf = true
  ws : (Lit.int .i64 sz).wf = true
  wm : (Lit.int .u32 sm).wf = true
  wn : (Lit.int .u64 nm).wf = true
def zeroS : Sh := ⟨0, 0, 0, 0, by decide, by decide, by decide, by decide⟩
instance : Inhabited Sh := ⟨zeroS⟩
def shV (f : Sh) : Value := .agg #[.int .u64 f.tb, .int .i64 f.sz, .int .u32 f.sm, .int .u64 f.nm]
/-- A point: its number, its files, and where these stand. -/
structure Pt where
  id : Int
  fs : List Sh
  A : Option Addr
  c : Nat
def zeroP : Pt := ⟨0, [], none, 0⟩
instance : Inhabited Pt := ⟨zeroP⟩
def ptV (p : Pt) : Value := .agg #[.int .u64 p.id, .slice p.A p.fs.length p.c]
/-- From the address A on, in a block below B, the files fs stand. -/
def RdS (w : World) (B : Nat) (A : Option Addr) (fs : List Sh) : Prop :=
  0 < fs.length → ∃ b off, A = some ⟨b, off, none⟩ ∧ b < B ∧ B ≤ w.heap.size ∧ ∀ i, i < fs.length → w.cell? ⟨b, off + i * 4, none⟩ = some (.int .u64 (fs.getD i zeroS).tb) ∧ w.cell? ⟨b, off + i * 4 + 1, none⟩ = some (.int .i64 (fs.getD i zeroS).sz) ∧
    w.cell? ⟨b, off + i * 4 + 2, none⟩ = some (.int .u32 (fs.getD i zeroS).sm) ∧ w.cell? ⟨b, off + i * 4 + 3, none⟩ = some (.int .u64 (fs.getD i zeroS).nm)
theorem RdS.kw {w w' : World} {S : Nat → Prop} {B : Nat} {A : Option Addr} {l : List Sh} (h : RdS w B A l) (k : Kw S w w') (hS : ∀ b, b < B → ¬ S b) : RdS w' B A l := fun hl => by
  obtain ⟨b, off, e, hb, hB, hc⟩ := h hl
  refine ⟨b, off, e, hb, Nat.le_trans hB k.size, fun i hi => ?_⟩
  have hbw : b < w.heap.size := by omega
  obtain ⟨u0, u1, u2, u3⟩ := hc i hi
  exact ⟨(k.cell hbw (hS b hb)).trans u0, (k.cell hbw (hS b hb)).trans u1, (k.cell hbw (hS b hb)).trans u2, (k.cell hbw (hS b hb)).trans u3⟩
theorem RdS.below {w w' : World} {B : Nat} {A : Option Addr} {l : List Sh} (h : RdS w B A l) (k : Below B w w') : RdS w' B A l := fun hl => by
  obtain ⟨b, off, e, hb, hB, hc⟩ := h hl
  refine ⟨b, off, e, hb, Nat.le_trans hB k.size, fun i hi => ?_⟩
  obtain ⟨u0, u1, u2, u3⟩ := hc i hi
  exact ⟨(k.cell (p := ⟨b, _, none⟩) hb).trans u0, (k.cell (p := ⟨b, _, none⟩) hb).trans u1, (k.cell (p := ⟨b, _, none⟩) hb).trans u2, (k.cell (p := ⟨b, _, none⟩) hb).trans u3⟩
theorem RdS.more {w : World} {B B' : Nat} {A : Option Addr} {l : List Sh} (h : RdS w B A l) (h1 : B ≤ B') (h2 : B' ≤ w.heap.size) : RdS w B' A l := fun hl => by
  obtain ⟨b, off, e, hb, hB, hc⟩ := h hl
  exact ⟨b, off, e, by omega, h2, hc⟩
/-- From the address A on, in a block below B, the points l stand, with their files. -/
def RdP (w : World) (B : Nat) (A : Option Addr) (l : List Pt) : Prop :=
  (0 < l.length → ∃ b off, A = some ⟨b, off, none⟩ ∧ b < B ∧ B ≤ w.heap.size ∧ ∀ i, i < l.length → w.cell? ⟨b, off + i * 2, none⟩ = some (.int .u64 (l.getD i zeroP).id) ∧ w.cell? ⟨b, off + i * 2 + 1, none⟩ = some (.slice (l.getD i zeroP).A (l.getD i zeroP).fs.length (l.getD i zeroP).c)) ∧
    ∀ p ∈ l, RdS w B p.A p.fs ∧ p.fs.length ≤ p.c
theorem RdP.kw {w w' : World} {S : Nat → Prop} {B : Nat} {A : Option Addr} {l : List Pt} (h : RdP w B A l) (k : Kw S w w') (hS : ∀ b, b < B → ¬ S b) : RdP w' B A l := by
  refine ⟨fun hl => ?_, fun p hp => ⟨(h.2 p hp).1.kw k hS, (h.2 p hp).2⟩⟩
  obtain ⟨b, off, e, hb, hB, hc⟩ := h.1 hl
  refine ⟨b, off, e, hb, Nat.le_trans hB k.size, fun i hi => ?_⟩
  have hbw : b < w.heap.size := by omega
  obtain ⟨u0, u1⟩ := hc i hi
  exact ⟨(k.cell hbw (hS b hb)).trans u0, (k.cell hbw (hS b hb)).trans u1⟩
theorem RdP.below {w w' : World} {B : Nat} {A : Option Addr} {l : List Pt} (h : RdP w B A l) (k : Below B w w') : RdP w' B A l := by
  refine ⟨fun hl => ?_, fun p hp => ⟨(h.2 p hp).1.below k, (h.2 p hp).2⟩⟩
  obtain ⟨b, off, e, hb, hB, hc⟩ := h.1 hl
  refine ⟨b, off, e, hb, Nat.le_trans hB k.size, fun i hi => ?_⟩
  obtain ⟨u0, u1⟩ := hc i hi
  exact ⟨(k.cell (p := ⟨b, _, none⟩) hb).trans u0, (k.cell (p := ⟨b, _, none⟩) hb).trans u1⟩
theorem RdP.more {w : World} {B B' : Nat} {A : Option Addr} {l : List Pt} (h : RdP w B A l) (h1 : B ≤ B') (h2 : B' ≤ w.heap.size) : RdP w B' A l := by
  refine ⟨fun hl => ?_, fun p hp => ⟨(h.2 p hp).1.more h1 h2, (h.2 p hp).2⟩⟩
  obtain ⟨b, off, e, hb, hB, hc⟩ := h.1 hl
  exact ⟨b, off, e, by omega, h2, hc⟩
theorem getS {l : List Sh} {i : Nat} (h : i < l.length) : l.getD i zeroS = l[i] := by rw [List.getD_eq_getElem?_getD, List.getElem?_eq_getElem h]; rfl
theorem getP {l : List Pt} {i : Nat} (h : i < l.length) : l.getD i zeroP = l[i] := by rw [List.getD_eq_getElem?_getD, List.getElem?_eq_getElem h]; rfl
theorem getP_mem {l : List Pt} {i : Nat} (h : i < l.length) : l.getD i zeroP ∈ l := getP h ▸ List.getElem_mem h
theorem getS_mem {l : List Sh} {i : Nat} (h : i < l.length) : l.getD i zeroS ∈ l := getS h ▸ List.getElem_mem h

/-! Maps that count. -/
theorem u62 : Try.prog.underlying 62 = some (.map 23 3) := by kernel_rfl
theorem u23 : Try.prog.underlying 23 = some (.int .u64) := by kernel_rfl
theorem u3 : Try.prog.underlying 3 = some (.int .i64) := by kernel_rfl
theorem key23 {x : Int} (h : (Lit.int .u64 x).wf = true) : keyOf Try.prog 23 (.int .u64 x) = some (.int .u64 x) := Maps.keyOf_int_mk u23 h
theorem K23 : Keyed Try.prog 23 := Maps.int_keyed u23
theorem zero3 (w : World) : (zeroValue 3).run Try.prog w = .ok (.int .i64 0) w := by kernel_rfl
/-- Block b is a map that tells how often each number stands in L. -/
def CntAt (w : World) (b : Nat) (L : List Int) : Prop :=
  ∃ D : DataW Unit, w.ownsMap Try.prog 23 (plainElem Try.prog 3) b L.length D ∧ ∀ x, (Lit.int .u64 x).wf = true → D.atKey (.int .u64 x) (.lit (.int .i64 0)) = .lit (.int .i64 (L.count x : Nat)) ∧ (has D (.int .u64 x) = true ↔ x ∈ L)
theorem CntAt.lt {w : World} {b : Nat} {L : List Int} (h : CntAt w b L) : b < w.heap.size := by obtain ⟨D, h1, _⟩ := h; exact h1.lt
theorem CntAt.made (w : World) : CntAt (w.alloc (.map #[] 0)) w.heap.size [] := ⟨.map [], World.ownsMap_made w _ _ _, fun x _ => ⟨rfl, by simp [has]⟩⟩
theorem CntAt.kw {w w' : World} {S : Nat → Prop} {b : Nat} {L : List Int} (h : CntAt w b L) (k : Kw S w w') (hm : ¬ S b) : CntAt w' b L := by
  obtain ⟨D, ho, h1⟩ := h
  have hlt := ho.lt
  obtain ⟨es, clock, hb, F, hs, hD⟩ := ho
  exact ⟨D, ⟨es, clock, (k.block b hlt hm).trans hb, F, hs, hD⟩, h1⟩
theorem CntAt.below {w w' : World} {B b : Nat} {L : List Int} (h : CntAt w b L) (k : Below B w w') (hb : b < B) : CntAt w' b L :=
  h.kw (S := fun x => ¬ x < B) ⟨k.os, k.tape, k.output, k.size, fun i _ hs => k.block i (by omega)⟩ (by omega)
theorem CntAt.look {w : World} {b : Nat} {L : List Int} (h : CntAt w b L) {x : Int} (hx : (Lit.int .u64 x).wf = true) :
    (Instr.lookup 62 (.map (some b)) (.int .u64 x) false).run Try.prog w = .ok (.int .i64 (L.count x : Nat)) w := by
  obtain ⟨D, ho, h1⟩ := h
  obtain ⟨c, hrun, hat, hwc⟩ := ho.lookup_int K23 u62 u3 (zero3 w) (key23 hx)
  rw [(h1 x hx).1] at hat
  simp only [DataW.lit.injEq, Lit.int.injEq, true_and] at hat
  rw [hat]
  exact hrun
theorem CntAt.bump {w : World} {b : Nat} {L : List Int} (h : CntAt w b L) {x : Int} (hx : (Lit.int .u64 x).wf = true) (hL : L.length < 1000000) :
    ∃ w', (Instr.mapUpdate 62 (.map (some b)) (.int .u64 x) (.int .i64 ((L.count x : Nat) + 1))).run Try.prog w = .ok () w' ∧ CntAt w' b (x :: L) ∧ w.grownBy w' (some b) := by
  obtain ⟨D, ho, h1⟩ := h
  have hc : L.count x ≤ L.length := List.count_le_length
  have hwf : (Lit.int .i64 ((L.count x : Nat) + 1)).wf = true := by
    show (decide (IntKind.min .i64 ≤ ((L.count x : Nat) : Int) + 1) && decide (((L.count x : Nat) : Int) + 1 ≤ IntKind.max .i64)) = true
    rw [show IntKind.min .i64 = -9223372036854775808 by decide, show IntKind.max .i64 = 9223372036854775807 by decide, Bool.and_eq_true, decide_eq_true_eq, decide_eq_true_eq]
    omega
  obtain ⟨w', hrun, r1, r2⟩ := ho.update K23 u62 (by unfold maxLen; omega) (key23 hx) (plainElem_int u3 hwf)
  have hD := ho.isMap
  have hk : WideAt.IsKeyLit (.int .u64 x) := K23.key (key23 hx)
  refine ⟨w', hrun, ⟨_, r1, fun y hy => ?_⟩, r2⟩
  by_cases hyx : y = x
  · subst hyx
    rw [atKey_put_same hD hk, has_put_same hD hk]
    simp
  · have hne : (Lit.int .u64 y) ≠ (Lit.int .u64 x) := by simp [hyx]
    rw [atKey_put_other hne, has_put_other hne, (h1 y hy).1, (h1 y hy).2]
    refine ⟨?_, by simp [hyx]⟩
    rw [List.count_cons_of_ne (fun e => hyx e.symm)]
theorem wpList_look_cnt {ops : Array Oper} {rest : List Oper} {o : Oper} {a : Act} {Q : Exit → Act → World → Prop} (w : World) (hw : Region.wanted o (yielded ops a.tmps) = true) (m x : Operand) (hop : o.op = .lookup 62 m x false)
    (b : Nat) (L : List Int) (h : CntAt w b L) (hm : a.eval m = .map (some b)) (k : Int) (hk : (Lit.int .u64 k).wf = true) (hx : a.eval x = .int .u64 k)
    (cont : wpList Try.prog ops Q rest (a.put o.dst (.int .i64 (L.count k : Nat))) w) : wpList Try.prog ops Q (o :: rest) a w := by
  refine wpList_step fun K hK => ?_
  rw [if_pos hw]
  have hrun := h.look hk
  unfold Oper.wp
  simp [execOp, hop, hm, hx, hrun, Result.andThen]
  exact hK _ _ cont
theorem wpList_bump_cnt {ops : Array Oper} {rest : List Oper} {o : Oper} {a : Act} {Q : Exit → Act → World → Prop} (w : World) (hw : Region.wanted o (yielded ops a.tmps) = true) (m x v : Operand) (hop : o.op = .mapUpdate 62 m x v)
    (b : Nat) (L : List Int) (h : CntAt w b L) (hm : a.eval m = .map (some b)) (k : Int) (hk : (Lit.int .u64 k).wf = true) (hx : a.eval x = .int .u64 k) (hv : a.eval v = .int .i64 ((L.count k : Nat) + 1)) (hL : L.length < 1000000)
    (cont : ∀ w', CntAt w' b (k :: L) → w.grownBy w' (some b) → wpList Try.prog ops Q rest (a.put o.dst undef) w') : wpList Try.prog ops Q (o :: rest) a w := by
  refine wpList_step fun K hK => ?_
  rw [if_pos hw]
  obtain ⟨w', hrun, hc, hg⟩ := h.bump hk hL
  unfold Oper.wp
  simp [execOp, hop, hm, hx, hv, hrun, Result.andThen]
  exact hK _ _ (cont w' hc hg)
end Go.Proofs.Ytmalcekbhnkfgaa
namespace Go.Proofs.Ytmalcekbhnkfgaa
open Go.RowKit Go.Maps
set_option linter.unusedVariables false
set_option linter.unusedSimpArgs false

def okN (n : Int) : Prop := 1 ≤ n ∧ n ≤ 99999999
instance (n : Int) : Decidable (okN n) := by unfold okN; infer_instance
theorem numbered_any (n : Int) (w : World) : Calls Try.prog 43 #[.int .u64 n] w fun e w' => e = .returned (.bool (decide (okN n))) ∧ w = w' := by
  by_cases h1 : 1 ≤ n
  · by_cases h2 : n ≤ 99999999
    · have hd : decide (okN n) = true := decide_eq_true ⟨h1, h2⟩
      rw [hd]
      clear hd
      go_enter Try.func43, Try.ntmps43
      go_wp2
      go_ret
      first | exact ⟨rfl, rfl⟩ | simp_all
    · have hd : decide (okN n) = false := decide_eq_false (fun h => h2 h.2)
      rw [hd]
      clear hd
      go_enter Try.func43, Try.ntmps43
      go_wp2
      go_ret
      first | exact ⟨rfl, rfl⟩ | simp_all
  · have hd : decide (okN n) = false := decide_eq_false (fun h => h1 h.1)
    rw [hd]
    clear hd
    go_enter Try.func43, Try.ntmps43
    go_wp2
    go_ret
    first | exact ⟨rfl, rfl⟩ | simp_all
def okF (f : Sh) : Prop := okN f.tb ∧ okN f.nm ∧ 1 ≤ f.sz ∧ f.sz ≤ 262144
def okFs (l : List Sh) : Prop := (∀ f ∈ l, okF f) ∧ (l.map Sh.tb).Nodup ∧ (l.map Sh.nm).Nodup
def mayP (p : Pt) : Prop := okN p.id ∧ p.fs.length ≤ 256 ∧ okFs p.fs
open Classical in
noncomputable def filesB (l : List Sh) : Bool := decide (okFs l)
theorem filesB_t {l : List Sh} (h : okFs l) : filesB l = true := by simp [filesB, h]
theorem filesB_f {l : List Sh} (h : ¬ okFs l) : filesB l = false := by simp [filesB, h]
theorem okFs.nil : okFs [] := ⟨by simp, by simp, by simp⟩
theorem okFs_snoc {l : List Sh} {f : Sh} : okFs (l ++ [f]) ↔ okFs l ∧ okF f ∧ f.tb ∉ l.map Sh.tb ∧ f.nm ∉ l.map Sh.nm := by
  unfold okFs
  simp only [List.mem_append, List.mem_singleton, List.map_append, List.map_cons, List.map_nil, List.nodup_append, List.nodup_cons, List.not_mem_nil, not_false_eq_true, List.nodup_nil, and_self, true_and]
  constructor
  · rintro ⟨h1, ⟨h2, h3⟩, h4, h5⟩
    refine ⟨⟨fun g hg => h1 g (.inl hg), h2, h4⟩, h1 f (.inr rfl), fun hm => ?_, fun hm => ?_⟩
    · exact h3 _ hm _ rfl rfl
    · exact h5 _ hm _ rfl rfl
  · rintro ⟨⟨h1, h2, h4⟩, h6, h3, h5⟩
    refine ⟨fun g hg => hg.elim (h1 g) (fun e => e ▸ h6), ⟨h2, ?_⟩, h4, ?_⟩
    · rintro a ha b rfl rfl
      exact h3 ha
    · rintro a ha b rfl rfl
      exact h5 ha
theorem take_snocS {l : List Sh} {i : Nat} (h : i < l.length) : l.take (i + 1) = l.take i ++ [l.getD i zeroS] := by
  rw [getS h, List.take_succ_eq_append_getElem h]
theorem okFs.take {l : List Sh} (h : okFs l) (k : Nat) : okFs (l.take k) := by
  obtain ⟨h1, h2, h3⟩ := h
  refine ⟨fun f hf => h1 f (List.mem_of_mem_take hf), ?_, ?_⟩
  · rw [List.map_take]
    exact h2.sublist (List.take_sublist _ _)
  · rw [List.map_take]
    exact h3.sublist (List.take_sublist _ _)
theorem count_pos_iff (L : List Int) (x : Int) : x ∈ L ↔ (1 : Int) < (L.count x : Nat) + 1 := by
  rw [← List.count_pos_iff]
  omega
set_option maxRecDepth 100000 in
set_option maxHeartbeats 4000000 in
theorem may_loop (id : Int) (A : Option Addr) (n c : Nat) (l : List Sh) (w : World) (hl : l.length = n) (hid : okN id) (hn : n ≤ 256) (hA : RdS w w.heap.size A l) :
    Calls Try.prog 29 #[.agg #[.int .u64 id, .slice A n c]] w fun e w' => e = .returned (.bool (filesB l)) ∧ Below w.heap.size w w' := by
  have HLN := Lib.hid hl
  have HA := Lib.hid hA
  have HN := Lib.hid hn
  have hni : ¬ (256 : Int) < (n : Int) := by omega
  have hdi : decide (okN id) = true := decide_eq_true hid
  clear hl hA hid
  have hmm := @run_makeMap Try.prog
  go_enter Try.func29, Try.ntmps29
  go_wp2_with (go_at_call 43; refine (numbered_any _ _).mono ?_; rintro e w' ⟨rfl, rfl⟩)
  have hb0 : Below w.heap.size w (((w.alloc (Obj.cells #[Value.int IntKind.u64 id, Value.slice A n c] 26)).alloc (Obj.map #[] 0)).alloc (Obj.map #[] 0)) := bl_alloc (bl_alloc (bl_alloc (Below.refl _ _) _) _) _
  have c1 : CntAt (((w.alloc (Obj.cells #[Value.int IntKind.u64 id, Value.slice A n c] 26)).alloc (Obj.map #[] 0)).alloc (Obj.map #[] 0)) (w.heap.size + 1) [] := by
    have h := (CntAt.made (w.alloc (Obj.cells #[Value.int IntKind.u64 id, Value.slice A n c] 26))).below (Below.alloc (Below.refl _ _) (Nat.le_refl _) (Obj.map #[] 0)) (by simp)
    simpa using h
  have c2 : CntAt (((w.alloc (Obj.cells #[Value.int IntKind.u64 id, Value.slice A n c] 26)).alloc (Obj.map #[] 0)).alloc (Obj.map #[] 0)) (w.heap.size + 1 + 1) [] := by
    have h := CntAt.made ((w.alloc (Obj.cells #[Value.int IntKind.u64 id, Value.slice A n c] 26)).alloc (Obj.map #[] 0))
    simpa using h
  generalize (((w.alloc (Obj.cells #[Value.int IntKind.u64 id, Value.slice A n c] 26)).alloc (Obj.map #[] 0)).alloc (Obj.map #[] 0)) = w0 at *
  have HB0 := Lib.hid hb0
  have C1 := Lib.hid c1
  have C2 := Lib.hid c2
  clear hb0 c1 c2
  go_loopw [22] (fun vi wr => ∃ i : Nat, i ≤ n ∧ vi = .int .i64 i ∧ okFs (l.take i) ∧ CntAt wr (w.heap.size + 1) ((l.take i).map Sh.tb).reverse ∧ CntAt wr (w.heap.size + 1 + 1) ((l.take i).map Sh.nm).reverse ∧ Below w.heap.size w wr) (fun i _ => n - (intOf i).toNat)
  case atStart => exact ⟨0, Nat.zero_le _, rfl, by simpa using okFs.nil, by simpa using C1.out, by simpa using C2.out, HB0.out⟩
  case round =>
    obtain ⟨i, hin, rfl, hok, hc1, hc2, hbl⟩ := hrel
    have HOK := Lib.hid hok
    have HC1 := Lib.hid hc1
    have HC2 := Lib.hid hc2
    have HBL := Lib.hid hbl
    have hws := hbl.size
    have hm1 := hc1.lt
    have hm2 := hc2.lt
    by_cases hi : i < n
    · have hi0 : (0 : Int) ≤ (i : Int) := by omega
      have hi1 : (i : Int) < (n : Int) := by omega
      obtain ⟨b, off, rfl, hb, _, hc⟩ := HA.out (by rw [HLN.out]; omega)
      obtain ⟨a0, a1, a2, a3⟩ := hc i (by rw [HLN.out]; exact hi)
      obtain ⟨f, hf⟩ : ∃ f, l.getD i zeroS = f := ⟨_, rfl⟩
      have hsn : l.take (i + 1) = l.take i ++ [f] := by rw [← hf]; exact take_snocS (by rw [HLN.out]; exact hi)
      have hfm : f ∈ l := by rw [← hf]; exact getS_mem (by rw [HLN.out]; exact hi)
      have hlen : (l.take i).length = i := by rw [List.length_take, HLN.out]; omega
      rw [hf] at a0 a1 a2 a3
      have a0 := (hbl.cell (p := ⟨b, off + i * 4, none⟩) hb).trans a0
      have a1 := (hbl.cell (p := ⟨b, off + i * 4 + 1, none⟩) hb).trans a1
      have a2 := (hbl.cell (p := ⟨b, off + i * 4 + 2, none⟩) hb).trans a2
      have a3 := (hbl.cell (p := ⟨b, off + i * 4 + 3, none⟩) hb).trans a3
      have hbw : b < wr.heap.size := by omega
      have HSN := Lib.hid hsn
      have HFM := Lib.hid hfm
      have hL1 : ((l.take i).map Sh.tb).reverse.length = i := by rw [List.length_reverse, List.length_map, hlen]
      have hL2 : ((l.take i).map Sh.nm).reverse.length = i := by rw [List.length_reverse, List.length_map, hlen]
      have hM1 : f.tb ∈ (l.take i).map Sh.tb ↔ (1 : Int) < ((((l.take i).map Sh.tb).reverse.count f.tb : Nat) : Int) + 1 := by rw [← count_pos_iff]; simp
      have hM2 : f.nm ∈ (l.take i).map Sh.nm ↔ (1 : Int) < ((((l.take i).map Sh.nm).reverse.count f.nm : Nat) : Int) + 1 := by rw [← count_pos_iff]; simp
      have hk1 : ((l.take i).map Sh.tb).reverse.count f.tb ≤ i := by have := List.count_le_length (a := f.tb) (l := ((l.take i).map Sh.tb).reverse); omega
      have hk2 : ((l.take i).map Sh.nm).reverse.count f.nm ≤ i := by have := List.count_le_length (a := f.nm) (l := ((l.take i).map Sh.nm).reverse); omega
      obtain ⟨q1, hq1⟩ : ∃ q, ((l.take i).map Sh.tb).reverse.count f.tb = q := ⟨_, rfl⟩
      obtain ⟨q2, hq2⟩ : ∃ q, ((l.take i).map Sh.nm).reverse.count f.nm = q := ⟨_, rfl⟩
      rw [hq1] at hM1 hk1
      rw [hq2] at hM2 hk2
      have HM1 := Lib.hid hM1
      have HM2 := Lib.hid hM2
      have HQ1 := Lib.hid hq1
      have HQ2 := Lib.hid hq2
      have hq10 : (0 : Int) ≤ (q1 : Int) := by omega
      have hq20 : (0 : Int) ≤ (q2 : Int) := by omega
      have hq11 : (q1 : Int) ≤ 256 := by omega
      have hq21 : (q2 : Int) ≤ 256 := by omega
      have HL1 := Lib.hid hL1
      have HL2 := Lib.hid hL2
      clear hc hf hsn hfm hM1 hM2 hq1 hq2 hL1 hL2 hok hc1 hc2 hbl
      obtain ⟨ftb, fsz, fsm, fnm, wt, wsz, wsm, wn⟩ := f
      dsimp only at *
      go_wp2_with ((at_lookup; refine Hid.out ?_))
      refine Lib.hid ?_
      have hbA : Below wr.heap.size wr (wr.alloc (Obj.cells #[.int .u64 ftb, .int .i64 fsz, .int .u32 fsm, .int .u64 fnm] 36)) := bl_alloc (Below.refl _ _) _
      have x0 : (wr.alloc (Obj.cells #[.int .u64 ftb, .int .i64 fsz, .int .u32 fsm, .int .u64 fnm] 36)).cell? ⟨wr.heap.size, 0, none⟩ = some (.int .u64 ftb) := by go_keep
      have x1 : (wr.alloc (Obj.cells #[.int .u64 ftb, .int .i64 fsz, .int .u32 fsm, .int .u64 fnm] 36)).cell? ⟨wr.heap.size, 1, none⟩ = some (.int .i64 fsz) := by go_keep
      have x3 : (wr.alloc (Obj.cells #[.int .u64 ftb, .int .i64 fsz, .int .u32 fsm, .int .u64 fnm] 36)).cell? ⟨wr.heap.size, 3, none⟩ = some (.int .u64 fnm) := by go_keep
      have hl0 : wr.heap.size < (wr.alloc (Obj.cells #[.int .u64 ftb, .int .i64 fsz, .int .u32 fsm, .int .u64 fnm] 36)).heap.size := by simp
      generalize (wr.alloc (Obj.cells #[.int .u64 ftb, .int .i64 fsz, .int .u32 fsm, .int .u64 fnm] 36)) = w1 at *
      have D1 := Lib.hid (HC1.out.below hbA hm1)
      have D2 := Lib.hid (HC2.out.below hbA hm2)
      have HB1 := Lib.hid (HBL.out.trans (hbA.mono hws))
      have hs1 := hbA.size
      clear hbA
      refine wpList_look_cnt _ (by rfl) _ _ rfl (w.heap.size + 1) _ D1.out rfl ftb wt rfl ?_
      rw [HQ1.out]
      go_wp2_with ((at_mapUpdate; refine Hid.out ?_))
      refine Lib.hid ?_
      refine wpList_bump_cnt _ (by rfl) _ _ _ rfl (w.heap.size + 1) _ D1.out rfl ftb wt rfl (by rw [HQ1.out]; rfl) (by rw [HL1.out]; omega) ?_
      intro w2 e1 g1
      have K1 : Kw (fun b => b = w.heap.size + 1) w1 w2 := (Kw.refl _ _).grown g1 (fun k hk => by cases hk; rfl)
      have x0 := (K1.cell hl0 (by omega)).trans x0
      have x1 := (K1.cell hl0 (by omega)).trans x1
      have x3 := (K1.cell hl0 (by omega)).trans x3
      have D2 := Lib.hid (D2.out.kw K1 (by omega))
      have HB2 := Lib.hid (HB1.out.trans (K1.below (B := w.heap.size) (by omega) (fun b hb => by omega)))
      have E1 := Lib.hid e1
      have hs2 := K1.size
      have hl2 : wr.heap.size < w2.heap.size := by omega
      clear e1 g1 K1
      go_wp2_with ((at_lookup; refine Hid.out ?_))
      refine Lib.hid ?_
      refine wpList_look_cnt _ (by rfl) _ _ rfl (w.heap.size + 1 + 1) _ D2.out rfl fnm wn rfl ?_
      rw [HQ2.out]
      go_wp2_with ((at_mapUpdate; refine Hid.out ?_))
      refine Lib.hid ?_
      refine wpList_bump_cnt _ (by rfl) _ _ _ rfl (w.heap.size + 1 + 1) _ D2.out rfl fnm wn rfl (by rw [HQ2.out]; rfl) (by rw [HL2.out]; omega) ?_
      intro w3 e2 g2
      have K2 : Kw (fun b => b = w.heap.size + 1 + 1) w2 w3 := (Kw.refl _ _).grown g2 (fun k hk => by cases hk; rfl)
      have x0 := (K2.cell hl2 (by omega)).trans x0
      have x1 := (K2.cell hl2 (by omega)).trans x1
      have x3 := (K2.cell hl2 (by omega)).trans x3
      have E1 := Lib.hid (E1.out.kw K2 (by omega))
      have HB3 := Lib.hid (HB2.out.trans (K2.below (B := w.heap.size) (by omega) (fun b hb => by omega)))
      have E2 := Lib.hid e2
      have hs3 := K2.size
      have hl3 : wr.heap.size < w3.heap.size := by omega
      have HR1 : Hid ((ftb :: ((l.take i).map Sh.tb).reverse).count ftb = q1 + 1) := Lib.hid (by rw [List.count_cons_self, HQ1.out])
      have HR2 : Hid ((fnm :: ((l.take i).map Sh.nm).reverse).count fnm = q2 + 1) := Lib.hid (by rw [List.count_cons_self, HQ2.out])
      clear e2 g2 K2
      by_cases h1 : okN ftb
      · have hd1 : decide (okN ftb) = true := decide_eq_true h1
        by_cases h2 : okN fnm
        · have hd2 : decide (okN fnm) = true := decide_eq_true h2
          by_cases h3 : fsz < 1
          · have HU : Hid (filesB l = false) := Lib.hid (filesB_f (fun h => by
              have h' := h.take (i + 1)
              rw [HSN.out, okFs_snoc] at h'
              have := h'.2.1.2.2.1; dsimp only at this; omega))
            clear h1 h2
            go_wp2_with (go_at_call 43; refine (numbered_any _ _).mono ?_; rintro e w' ⟨rfl, rfl⟩)
            go_ret
            exact ⟨by rw [HU.out]; rfl, HB3.out⟩
          · have h3' : 1 ≤ fsz := by omega
            have hde3 : decide (fsz < 1) = false := decide_eq_false h3
            by_cases h4 : 262144 < fsz
            · have HU : Hid (filesB l = false) := Lib.hid (filesB_f (fun h => by
                have h' := h.take (i + 1)
                rw [HSN.out, okFs_snoc] at h'
                have := h'.2.1.2.2.2; dsimp only at this; omega))
              clear h1 h2
              have hde4 : decide (262144 < fsz) = true := decide_eq_true h4
              go_wp2_with (go_at_call 43; refine (numbered_any _ _).mono ?_; rintro e w' ⟨rfl, rfl⟩)
              go_ret
              exact ⟨by rw [HU.out]; rfl, HB3.out⟩
            · have h4' : fsz ≤ 262144 := by omega
              have hde4 : decide (262144 < fsz) = false := decide_eq_false h4
              by_cases h5 : (1 : Int) < (q1 : Int) + 1
              · have HU : Hid (filesB l = false) := Lib.hid (filesB_f (fun h => by
                  have h' := h.take (i + 1)
                  rw [HSN.out, okFs_snoc] at h'
                  exact h'.2.2.1 (HM1.out.2 h5)))
                clear h1 h2
                have hde5 : decide ((1 : Int) < (q1 : Int) + 1) = true := decide_eq_true h5
                go_wp2_with (first | (go_at_call 43; refine (numbered_any _ _).mono ?_; rintro e w' ⟨rfl, rfl⟩) | (at_lookup; refine Hid.out ?_))
                refine Lib.hid ?_
                refine wpList_look_cnt _ (by rfl) _ _ rfl (w.heap.size + 1) _ E1.out rfl ftb wt rfl ?_
                rw [HR1.out]
                go_wp2_with (go_at_call 43; refine (numbered_any _ _).mono ?_; rintro e w' ⟨rfl, rfl⟩)
                go_ret
                exact ⟨by rw [HU.out]; rfl, HB3.out⟩
              · have hde5 : decide ((1 : Int) < (q1 : Int) + 1) = false := decide_eq_false h5
                by_cases h6 : (1 : Int) < (q2 : Int) + 1
                · have HU : Hid (filesB l = false) := Lib.hid (filesB_f (fun h => by
                    have h' := h.take (i + 1)
                    rw [HSN.out, okFs_snoc] at h'
                    exact h'.2.2.2 (HM2.out.2 h6)))
                  clear h1 h2
                  have hde6 : decide ((1 : Int) < (q2 : Int) + 1) = true := decide_eq_true h6
                  go_wp2_with (first | (go_at_call 43; refine (numbered_any _ _).mono ?_; rintro e w' ⟨rfl, rfl⟩) | (at_lookup; refine Hid.out ?_))
                  refine Lib.hid ?_
                  refine wpList_look_cnt _ (by rfl) _ _ rfl (w.heap.size + 1) _ E1.out rfl ftb wt rfl ?_
                  rw [HR1.out]
                  go_wp2_with (first | (go_at_call 43; refine (numbered_any _ _).mono ?_; rintro e w' ⟨rfl, rfl⟩) | (at_lookup; refine Hid.out ?_))
                  refine Lib.hid ?_
                  refine wpList_look_cnt _ (by rfl) _ _ rfl (w.heap.size + 1 + 1) _ E2.out rfl fnm wn rfl ?_
                  rw [HR2.out]
                  go_wp2_with (go_at_call 43; refine (numbered_any _ _).mono ?_; rintro e w' ⟨rfl, rfl⟩)
                  go_ret
                  exact ⟨by rw [HU.out]; rfl, HB3.out⟩
                · have HU : Hid (okFs (l.take (i + 1))) := Lib.hid (by
                    rw [HSN.out, okFs_snoc]
                    exact ⟨HOK.out, ⟨h1, h2, h3', h4'⟩, fun h => h5 (HM1.out.1 h), fun h => h6 (HM2.out.1 h)⟩)
                  have HW1 : Hid (CntAt w3 (w.heap.size + 1) ((l.take (i + 1)).map Sh.tb).reverse) := Lib.hid (by
                    rw [HSN.out]
                    simpa using E1.out)
                  have HW2 : Hid (CntAt w3 (w.heap.size + 1 + 1) ((l.take (i + 1)).map Sh.nm).reverse) := Lib.hid (by
                    rw [HSN.out]
                    simpa using E2.out)
                  clear h1 h2
                  have hde6 : decide ((1 : Int) < (q2 : Int) + 1) = false := decide_eq_false h6
                  go_wp2_with (first | (go_at_call 43; refine (numbered_any _ _).mono ?_; rintro e w' ⟨rfl, rfl⟩) | (at_lookup; refine Hid.out ?_))
                  refine Lib.hid ?_
                  refine wpList_look_cnt _ (by rfl) _ _ rfl (w.heap.size + 1) _ E1.out rfl ftb wt rfl ?_
                  rw [HR1.out]
                  go_wp2_with (first | (go_at_call 43; refine (numbered_any _ _).mono ?_; rintro e w' ⟨rfl, rfl⟩) | (at_lookup; refine Hid.out ?_))
                  refine Lib.hid ?_
                  refine wpList_look_cnt _ (by rfl) _ _ rfl (w.heap.size + 1 + 1) _ E2.out rfl fnm wn rfl ?_
                  rw [HR2.out]
                  go_wp2_with (go_at_call 43; refine (numbered_any _ _).mono ?_; rintro e w' ⟨rfl, rfl⟩)
                  go_roundw
                  case rel => exact ⟨i + 1, by omega, by first | rfl | (push_cast; rfl) | go_num, HU.out, HW1.out, HW2.out, HB3.out⟩
                  case measure => simp [intOf]; omega
        · have hd2 : decide (okN fnm) = false := decide_eq_false h2
          have HU : Hid (filesB l = false) := Lib.hid (filesB_f (fun h => by
            have h' := h.take (i + 1)
            rw [HSN.out, okFs_snoc] at h'
            exact h2 h'.2.1.2.1))
          clear h1 h2
          go_wp2_with (go_at_call 43; refine (numbered_any _ _).mono ?_; rintro e w' ⟨rfl, rfl⟩)
          go_ret
          exact ⟨by rw [HU.out]; rfl, HB3.out⟩
      · have hd1 : decide (okN ftb) = false := decide_eq_false h1
        have HU : Hid (filesB l = false) := Lib.hid (filesB_f (fun h => by
          have h' := h.take (i + 1)
          rw [HSN.out, okFs_snoc] at h'
          exact h1 h'.2.1.1))
        clear h1
        go_wp2_with (go_at_call 43; refine (numbered_any _ _).mono ?_; rintro e w' ⟨rfl, rfl⟩)
        go_ret
        exact ⟨by rw [HU.out]; rfl, HB3.out⟩
    · have hine : i = n := by omega
      subst hine
      have hirr : ¬ (i : Int) < (i : Int) := by omega
      have HU : Hid (filesB l = true) := Lib.hid (filesB_t (by have := HOK.out; rwa [List.take_of_length_le (by rw [HLN.out]; exact Nat.le_refl _)] at this))
      clear hok hc1 hc2 hbl
      go_wp2_with (fail)
      go_ret
      exact ⟨by rw [HU.out]; rfl, HBL.out⟩
end Go.Proofs.Ytmalcekbhnkfgaa
namespace Go.Proofs.Ytmalcekbhnkfgaa
open Go.RowKit Go.Maps Go.Shelf
set_option linter.unusedVariables false
set_option linter.unusedSimpArgs false
attribute [local go_sem] Oper.semAt_some

open Classical in
noncomputable def mayB (p : Pt) : Bool := decide (mayP p)
theorem mayB_t {p : Pt} (h : mayP p) : mayB p = true := by simp [mayB, h]
theorem mayB_f {p : Pt} (h : ¬ mayP p) : mayB p = false := by simp [mayB, h]
set_option maxRecDepth 100000 in
set_option maxHeartbeats 1000000 in
theorem may_any (p : Pt) (w : World) (hA : RdS w w.heap.size p.A p.fs) :
    Calls Try.prog 29 #[ptV p] w fun e w' => e = .returned (.bool (mayB p)) ∧ Below w.heap.size w w' := by
  obtain ⟨id, fs, A, c⟩ := p
  unfold ptV
  dsimp only at *
  by_cases h1 : okN id
  · by_cases h2 : fs.length ≤ 256
    · refine (may_loop id A fs.length c fs w rfl h1 h2 hA).mono ?_
      rintro e w' ⟨rfl, hb⟩
      refine ⟨?_, hb⟩
      by_cases h3 : okFs fs
      · rw [filesB_t h3, mayB_t ⟨h1, h2, h3⟩]
      · rw [filesB_f h3, mayB_f (fun h => h3 h.2.2)]
    · rw [mayB_f (fun h => h2 h.2.1)]
      obtain ⟨n, hn⟩ : ∃ n, fs.length = n := ⟨_, rfl⟩
      rw [hn] at h2 ⊢
      have hde : decide ((256 : Int) < (n : Int)) = true := decide_eq_true (by omega)
      have hd1 : decide (okN id) = true := decide_eq_true h1
      have hmm := @run_makeMap Try.prog
      clear hA hn h2 h1
      go_enter Try.func29, Try.ntmps29
      go_wp2_with (go_at_call 43; refine (numbered_any _ _).mono ?_; rintro e w' ⟨rfl, rfl⟩)
      go_ret
      exact ⟨rfl, bl_alloc (bl_alloc (bl_alloc (Below.refl _ _) _) _) _⟩
  · rw [mayB_f (fun h => h1 h.1)]
    obtain ⟨n, hn⟩ : ∃ n, fs.length = n := ⟨_, rfl⟩
    rw [hn]
    have hd1 : decide (okN id) = false := decide_eq_false h1
    have hmm := @run_makeMap Try.prog
    clear hA hn h1
    go_enter Try.func29, Try.ntmps29
    go_wp2_with (go_at_call 43; refine (numbered_any _ _).mono ?_; rintro e w' ⟨rfl, rfl⟩)
    go_ret
    exact ⟨rfl, bl_alloc (bl_alloc (bl_alloc (Below.refl _ _) _) _) _⟩

/-! The iterator. -/
/-- All files, each with its point's place. -/
def flat : Nat → List Pt → List (Nat × Sh)
  | _, [] => []
  | k, p :: l => p.fs.map (fun f => (k, f)) ++ flat (k + 1) l
theorem flat_append (k : Nat) (l m : List Pt) : flat k (l ++ m) = flat k l ++ flat (k + l.length) m := by
  induction l generalizing k with
  | nil => simp [flat]
  | cons p l ih => simp [flat, ih, Nat.add_assoc, Nat.add_comm 1]
theorem take_snocP {l : List Pt} {i : Nat} (h : i < l.length) : l.take (i + 1) = l.take i ++ [l.getD i zeroP] := by
  rw [getP h, List.take_succ_eq_append_getElem h]
/-- What has come behind i points and k files of the next one. -/
def came (l : List Pt) (i k : Nat) : List (Nat × Sh) := flat 0 (l.take i) ++ ((l.getD i zeroP).fs.take k).map (fun f => (i, f))
theorem came_zero (l : List Pt) : came l 0 0 = [] := by simp [came, flat]
theorem came_next {l : List Pt} {i : Nat} (h : i < l.length) : came l i (l.getD i zeroP).fs.length = came l (i + 1) 0 := by
  unfold came
  rw [take_snocP h, flat_append, List.length_take, Nat.min_eq_left (by omega), List.take_length]
  simp [flat]
theorem came_succ {l : List Pt} {i k : Nat} (hk : k < (l.getD i zeroP).fs.length) : came l i (k + 1) = came l i k ++ [(i, (l.getD i zeroP).fs.getD k zeroS)] := by
  unfold came
  rw [take_snocS hk, List.map_append]
  simp
theorem came_all (l : List Pt) : came l l.length 0 = flat 0 l := by simp [came]
theorem came_prefix {l : List Pt} {i k : Nat} (h : i < l.length) : came l i k <+: flat 0 l := by
  unfold came
  conv => rhs; rw [← List.take_append_drop i l, List.drop_eq_getElem_cons h, flat_append]
  rw [List.prefix_append_right_inj, getP h, List.length_take, Nat.min_eq_left (by omega)]
  refine List.IsPrefix.trans ?_ (List.prefix_append _ _)
  rw [Nat.zero_add]
  exact (List.take_prefix _ _).map _
theorem came_lt {l : List Pt} {i k : Nat} (h : i < l.length) (hk : k < (l.getD i zeroP).fs.length) : (came l i k).length < (flat 0 l).length := by
  have h1 := came_succ hk
  have h2 := (came_prefix (l := l) (k := k + 1) h).length_le
  rw [h1] at h2
  simp at h2
  omega
end Go.Proofs.Ytmalcekbhnkfgaa
namespace Go.Proofs.Ytmalcekbhnkfgaa
open Go.RowKit Go.Maps Go.Shelf
set_option linter.unusedVariables false
set_option linter.unusedSimpArgs false
attribute [local go_sem] Oper.semAt_some

def encN (x : Nat × Sh) : Array Value := #[.int .i64 (x.1 : Int), shV x.2]
set_option maxRecDepth 100000 in
set_option maxHeartbeats 4000000 in
theorem files1_in (F : Fence) (n : Nat) (h44 : F.fn 44) (hro : F.round = none) (hn : 1 ≤ n) (ly Bs n₀ : Nat) (A : Option Addr) (len cap : Nat) (ps : List Pt) (hlen : ps.length = len) (hcap : len ≤ 1000000) (hfs : ∀ p ∈ ps, p.fs.length ≤ 1000000)
    (J Jx : List (Nat × Sh) → World → Prop) (B0 : Nat) (hJ : AbidesFrom B0 J)
    (hY : ∀ pre x W, J pre W → pre.length < (flat 0 ps).length → YieldAt F (n - 1) Try.prog ly (encN x) W fun e W' => (e = .returned (.bool true) ∧ J (pre ++ [x]) W' ∧ Below n₀ W W') ∨ (e = .returned (.bool false) ∧ Jx (pre ++ [x]) W'))
    (W : World) (hn₀ : n₀ ≤ W.heap.size) (hBs : W.cell? ⟨Bs, 0, none⟩ = some (.slice A len cap)) (hP : RdP W n₀ A ps) (h0 : J [] W) :
    CallsIn F n Try.prog 44 #[.func (.yield ly) #[] #[], .pointer (some ⟨Bs, 0, none⟩)] W fun e W' => (∃ v, e = .returned v) ∧
      ((∃ ys, ys = flat 0 ps ∧ J ys W') ∨ (∃ pre, pre <+: flat 0 ps ∧ Jx pre W')) := by
  have HP := Lib.hid hP
  have HLN := Lib.hid hlen
  have HFS := Lib.hid hfs
  have HJ := Lib.hid hJ
  clear hP hlen hfs hJ
  refine callsIn_of_wp Try.func44 rfl h44 ?_ hro
  simp only [Try.ntmps44, List.size_toArray, List.length_cons, List.length_nil, Nat.reduceAdd, Nat.reduceSub, Array.replicate_succ, Array.replicate_zero, List.push_toArray, List.append_toArray, List.nil_append, List.cons_append]
  gi_wp2
  gi_loopw [9] (fun vi wr => ∃ i : Nat, i ≤ len ∧ vi = .int .i64 i ∧ J (came ps i 0) wr ∧ Below n₀ W wr) (fun i _ => len - (intOf i).toNat)
  case atStart => exact ⟨0, Nat.zero_le _, rfl, by rw [came_zero]; exact h0, Below.refl _ _⟩
  case round =>
    obtain ⟨i, hil, rfl, hJs, hbl⟩ := hrel
    by_cases hi : i < len
    · have hip : i < ps.length := by rw [HLN.out]; exact hi
      have hi0 : (0 : Int) ≤ (i : Int) := by omega
      have hi1 : (i : Int) < (len : Int) := by omega
      obtain ⟨b, off, rfl, hb, _, hc⟩ := HP.out.1 (by omega)
      obtain ⟨a0, a1⟩ := hc i hip
      have hpm := getP_mem hip
      obtain ⟨hfr, hfc⟩ := HP.out.2 _ hpm
      have hfn := HFS.out _ hpm
      obtain ⟨p, hp⟩ : ∃ p, ps.getD i zeroP = p := ⟨_, rfl⟩
      rw [hp] at a0 a1 hfr hfc hfn
      have hws := hbl.size
      have hbw : b < wr.heap.size := by omega
      have a0 := (hbl.cell (p := ⟨b, off + i * 2, none⟩) hb).trans a0
      have a1 := (hbl.cell (p := ⟨b, off + i * 2 + 1, none⟩) hb).trans a1
      have HPE := Lib.hid hp
      have HIP := Lib.hid hip
      have HFR := Lib.hid hfr
      have HBL := Lib.hid hbl
      have HJS := Lib.hid hJs
      clear hc hpm hp hip hfr hbl hJs
      obtain ⟨pid, pfs, pA, pc⟩ := p
      dsimp only at *
      obtain ⟨m, hm⟩ : ∃ m, pfs.length = m := ⟨_, rfl⟩
      rw [hm] at a1 hfc hfn
      have HM := Lib.hid hm
      clear hm
      gi_wp2
      have hbA : Below n₀ wr (wr.alloc (Obj.cells #[Value.int IntKind.u64 pid, Value.slice pA m pc] 26)) := Below.alloc (Below.refl _ _) (by omega) _
      have hjA : J (came ps i 0) (wr.alloc (Obj.cells #[Value.int IntKind.u64 pid, Value.slice pA m pc] 26)) := HJ.out _ _ _ none HJS.out (World.grownBy_alloc _ _ none) (fun r e => by cases e)
      have hsA : wr.heap.size ≤ (wr.alloc (Obj.cells #[Value.int IntKind.u64 pid, Value.slice pA m pc] 26)).heap.size := by simp
      generalize (wr.alloc (Obj.cells #[Value.int IntKind.u64 pid, Value.slice pA m pc] 26)) = wA at *
      have HBA := Lib.hid (HBL.out.trans hbA)
      have HJA := Lib.hid hjA
      clear hbA hjA
      gi_loopw [17] (fun vk wq => ∃ k : Nat, k ≤ m ∧ vk = .int .i64 k ∧ J (came ps i k) wq ∧ Below n₀ W wq) (fun k _ => m - (intOf k).toNat)
      case atStart => exact ⟨0, Nat.zero_le _, rfl, HJA.out, HBA.out⟩
      case round =>
        obtain ⟨k, hkm, rfl, hJk, hbk⟩ := hrel
        have HJK := Lib.hid hJk
        have HBK := Lib.hid hbk
        have hwk := hbk.size
        clear hJk
        by_cases hk : k < m
        · have hk0 : (0 : Int) ≤ (k : Int) := by omega
          have hk1 : (k : Int) < (m : Int) := by omega
          obtain ⟨bs, offs, rfl, hbs, _, hcs⟩ := HFR.out (by rw [HM.out]; omega)
          obtain ⟨f0, f1, f2, f3⟩ := hcs k (by rw [HM.out]; exact hk)
          have hkp : k < (ps.getD i zeroP).fs.length := by rw [HPE.out]; dsimp only; rw [HM.out]; exact hk
          have hsu := came_succ hkp
          have hlt := came_lt HIP.out hkp
          have hpx := came_prefix (k := k + 1) HIP.out
          rw [HPE.out] at hsu
          dsimp only at hsu
          obtain ⟨f, hf⟩ : ∃ f, pfs.getD k zeroS = f := ⟨_, rfl⟩
          rw [hf] at f0 f1 f2 f3 hsu
          have f0 := (hbk.cell (p := ⟨bs, offs + k * 4, none⟩) hbs).trans f0
          have f1 := (hbk.cell (p := ⟨bs, offs + k * 4 + 1, none⟩) hbs).trans f1
          have f2 := (hbk.cell (p := ⟨bs, offs + k * 4 + 2, none⟩) hbs).trans f2
          have f3 := (hbk.cell (p := ⟨bs, offs + k * 4 + 3, none⟩) hbs).trans f3
          have hbsw : bs < wr.heap.size := by omega
          have HSU := Lib.hid hsu
          have HPX := Lib.hid hpx
          have hbF : Below n₀ wr (wr.alloc (Obj.cells #[.int .u64 f.tb, .int .i64 f.sz, .int .u32 f.sm, .int .u64 f.nm] 36)) := Below.alloc (Below.refl _ _) (by omega) _
          have hjF : J (came ps i k) (wr.alloc (Obj.cells #[.int .u64 f.tb, .int .i64 f.sz, .int .u32 f.sm, .int .u64 f.nm] 36)) := HJ.out _ _ _ none HJK.out (World.grownBy_alloc _ _ none) (fun r e => by cases e)
          obtain ⟨fn, tmps, assign, body, hy, hR⟩ := hY _ (i, f) _ hjF hlt
          have HBF := Lib.hid (HBK.out.trans hbF)
          clear hcs hf hsu hpx hbF hjF hkp hlt hbk
          simp only [encN, shV] at hy
          gi_wp2
          refine hR.mono ?_
          rintro e W3 (⟨rfl, hJ3, hk3⟩ | ⟨rfl, hJx3⟩)
          · have HU : Hid (J (came ps i (k + 1)) W3) := Lib.hid (by rw [HSU.out]; exact hJ3)
            have HV := Lib.hid (HBF.out.trans hk3)
            clear hJ3 hk3 hR hy
            gi_wp2
            go_roundw
            case rel => exact ⟨k + 1, by omega, by first | rfl | (push_cast; rfl) | go_num, HU.out, HV.out⟩
            case measure => simp [intOf]; omega
          · have HU : Hid (Jx (came ps i (k + 1)) W3) := Lib.hid (by rw [HSU.out]; exact hJx3)
            clear hJx3 hR hy
            gi_wp2
            refine bodyPost_ret (results_none rfl _ _ _) rfl ?_
            exact ⟨⟨_, rfl⟩, .inr ⟨_, HPX.out, HU.out⟩⟩
        · obtain rfl : k = m := by omega
          have HU : Hid (J (came ps (i + 1) 0) wr) := Lib.hid (by
            have h := came_next HIP.out
            rw [HPE.out] at h
            dsimp only at h
            rw [HM.out] at h
            rw [← h]
            exact HJK.out)
          clear hbk
          gi_wp2
          go_roundw
          case rel => exact ⟨i + 1, by omega, by first | rfl | (push_cast; rfl) | go_num, HU.out, HBK.out⟩
          case measure => simp [intOf]; omega
    · obtain rfl : i = len := by omega
      have HU : Hid (J (flat 0 ps) wr) := Lib.hid (by have h := hJs; rw [← HLN.out, came_all] at h; exact h)
      clear hJs
      gi_wp2
      go_end0
      exact ⟨⟨_, rfl⟩, .inl ⟨_, rfl, HU.out⟩⟩
theorem files_in (F : Fence) (n : Nat) (h30 : F.fn 30) (hro : F.round = none) (A : Option Addr) (len cap : Nat) (w : World) :
    CallsIn F n Try.prog 30 #[.slice A len cap] w fun e w' => e = .returned (.func (.func 44) #[] #[.pointer (some ⟨w.heap.size, 0, none⟩)]) ∧ w' = w.alloc (.cells #[.slice A len cap] 22) := by
  refine callsIn_of_wp Try.func30 rfl h30 ?_ hro
  simp only [Try.ntmps30, List.size_toArray, List.length_cons, List.length_nil, Nat.reduceAdd, Nat.reduceSub, Array.replicate_succ, Array.replicate_zero, List.push_toArray, List.append_toArray, List.nil_append, List.cons_append]
  gi_wp2
  go_ret
  exact ⟨rfl, rfl⟩
/-- The iterator's contract. -/
theorem files_stops (F : Fence) (n : Nat) (h44 : F.fn 44) (hro : F.round = none) (hn : 1 ≤ n) (Bs n₀ : Nat) (A : Option Addr) (cap : Nat) (ps : List Pt) (hcap : ps.length ≤ 1000000) (hfs : ∀ p ∈ ps, p.fs.length ≤ 1000000) (w : World) (hBs : Bs < w.heap.size) (hn₀ : n₀ ≤ w.heap.size)
    (hc : w.cell? ⟨Bs, 0, none⟩ = some (.slice A ps.length cap)) (hP : RdP w n₀ A ps) :
    SeqStopsK F n Try.prog 44 #[.pointer (some ⟨Bs, 0, none⟩)] encN (Below n₀) (fun ys => ys = flat 0 ps) (fun pre => pre <+: flat 0 ps) (flat 0 ps).length w := fun l J Jx W hW hJ _ hY h0 =>
  files1_in F n h44 hro hn l Bs n₀ A ps.length cap ps rfl hcap hfs J Jx _ hJ hY W (Nat.le_trans hn₀ hW.size) ((hW.cell (p := ⟨Bs, 0, none⟩) hBs).trans hc) (hP.below (hW.mono hn₀)) h0
end Go.Proofs.Ytmalcekbhnkfgaa
