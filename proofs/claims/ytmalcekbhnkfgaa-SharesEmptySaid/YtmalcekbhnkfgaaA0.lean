/- Shares, points, and maps that count, as words. Conditions: as each theorem states them. -/
import Derived.Test.YtmalcekbhnkfgaaProg
import Derived.WalkKit
import Derived.WalkLawsBesides
import Derived.WalkSpells
import Derived.Deep.QuietTactic
import Derived.BigQuiet
import Derived.Lib.Hide
import Derived.Maps.OwnSet
import Derived.Maps.OwnOps
import Derived.Carry
import Derived.Deep.DeepFit
import Derived.Deep.DeepMust
import Derived.Laws.EntriesVeiled
import Derived.StillTailTactics
import Derived.Deep.RegionHeld3
import Derived.Deep.RegionWith
namespace Go.Proofs.Ytmalcekbhnkfgaa
open Go.RowKit Go.Maps
set_option linter.unusedVariables false
set_option linter.unusedSimpArgs false

theorem bl_alloc {w W : World} (h : Below w.heap.size w W) (o : Obj) : Below w.heap.size w (W.alloc o) := h.alloc h.size o
theorem bl_then {w W W' : World} (h : Below w.heap.size w W) (k : Below W.heap.size W W') : Below w.heap.size w W' := h.trans (k.mono h.size)
theorem bl_drewN {B : Nat} {a w : World} (h : Below B a w) (n : Nat) : Below B a (w.drewN n) := ⟨h.os, h.tape, h.output, h.size, h.block⟩
/-- The world keeps its blocks, but those of S. -/
structure Kw (S : Nat → Prop) (w w' : World) : Prop where
  os : w'.os = w.os
  tape : w'.tape = w.tape
  output : w'.output = w.output
  size : w.heap.size ≤ w'.heap.size
  block : ∀ b, b < w.heap.size → ¬ S b → w'.heap[b]? = w.heap[b]?
theorem Kw.refl (S : Nat → Prop) (w : World) : Kw S w w := ⟨rfl, rfl, rfl, Nat.le_refl _, fun _ _ _ => rfl⟩
theorem Kw.trans {S : Nat → Prop} {a b c : World} (h : Kw S a b) (k : Kw S b c) : Kw S a c :=
  ⟨k.os.trans h.os, k.tape.trans h.tape, k.output.trans h.output, Nat.le_trans h.size k.size, fun i hi hs => (k.block i (Nat.lt_of_lt_of_le hi h.size) hs).trans (h.block i hi hs)⟩
theorem Kw.mono {S T : Nat → Prop} {w w' : World} (h : Kw S w w') (hST : ∀ b, b < w.heap.size → S b → T b) : Kw T w w' :=
  ⟨h.os, h.tape, h.output, h.size, fun i hi hs => h.block i hi (fun hS => hs (hST i hi hS))⟩
theorem Kw.ofBelow {S : Nat → Prop} {w w' : World} (h : Below w.heap.size w w') : Kw S w w' := ⟨h.os, h.tape, h.output, h.size, fun b hb _ => h.block b hb⟩
theorem Kw.setCell {S : Nat → Prop} {a w : World} (h : Kw S a w) {p : Addr} (hp : S p.block) (v : Value) : Kw S a (w.setCell p v) :=
  ⟨h.os, h.tape, h.output, by simpa [World.setCell] using h.size, fun b hb hs => (Below.heap_setCell w p v b (fun e => hs (e ▸ hp))).trans (h.block b hb hs)⟩
theorem Kw.drew {S : Nat → Prop} {a w : World} (h : Kw S a w) : Kw S a w.drew := ⟨h.os, h.tape, h.output, h.size, h.block⟩
theorem Kw.drewN {S : Nat → Prop} {a w : World} (h : Kw S a w) (n : Nat) : Kw S a (w.drewN n) := h.trans (Kw.ofBelow (bl_drewN (Below.refl _ _) n))
theorem Kw.alloc {S : Nat → Prop} {a w : World} (h : Kw S a w) (o : Obj) : Kw S a (w.alloc o) := h.trans (Kw.ofBelow (bl_alloc (Below.refl _ _) o))
theorem Kw.grown {S : Nat → Prop} {a w w' : World} {row : Option Nat} (h : Kw S a w) (g : w.grownBy w' row) (hr : ∀ k, row = some k → S k) : Kw S a w' :=
  h.trans ⟨g.os, g.tape, g.output, g.size, fun i hi hs => g.block i hi (fun e => hs (hr i e.symm))⟩
theorem Kw.below {S : Nat → Prop} {w w' : World} {B : Nat} (h : Kw S w w') (hB : B ≤ w.heap.size) (hS : ∀ b, S b → B ≤ b) : Below B w w' :=
  ⟨h.os, h.tape, h.output, h.size, fun b hb => h.block b (by omega) (fun hs => by have := hS b hs; omega)⟩
theorem Kw.cell {S : Nat → Prop} {w w' : World} (h : Kw S w w') {b i : Nat} (hb : b < w.heap.size) (hs : ¬ S b) : w'.cell? ⟨b, i, none⟩ = w.cell? ⟨b, i, none⟩ := World.cell?_of_block (h.block b hb hs)
theorem Kw.frozen {S : Nat → Prop} {w w' : World} (h : Kw S w w') {b i : Nat} (hb : b < w.heap.size) (hs : ¬ S b) : w'.frozen? ⟨b, i, none⟩ = w.frozen? ⟨b, i, none⟩ := World.frozen?_of_block (h.block b hb hs)
/-! Regions that draw their order, read, and call functions that make memory of their own: the worlds that are as w was below w's size. -/
def Ext (w : World) : Type := { w' : World // Below w.heap.size w w' }
instance (w : World) : Nonempty (Ext w) := ⟨⟨w, Below.refl _ _⟩⟩
theorem Ext.bl {w : World} (x : Ext w) : Below w.heap.size w x.val := x.property

section
variable {P : Program} {w : World}
theorem ext_calls {f : FuncId} {args : Array Value} {x : Ext w} {v : Value} (h : Calls P f args x.val fun e w' => e = .returned v ∧ Below x.val.heap.size x.val w') :
    Calls P f args x.val fun e w'' => e = .returned v ∧ ∃ y : Ext w, w'' = y.val :=
  h.mono fun _ w'' ⟨he, hb⟩ => ⟨he, ⟨w'', x.bl.trans (hb.mono x.bl.size)⟩, rfl⟩
theorem ext_calls_same {f : FuncId} {args : Array Value} {x : Ext w} {v : Value} (h : Calls P f args x.val fun e w' => e = .returned v ∧ x.val = w') :
    Calls P f args x.val fun e w'' => e = .returned v ∧ ∃ y : Ext w, w'' = y.val :=
  h.mono fun _ _ ⟨he, hb⟩ => ⟨he, x, hb.symm⟩
theorem ext_cell {p : Addr} {v : Value} (h : w.cell? p = some v) : ∀ x : Ext w, x.val.cell? p = some v := fun x => (x.bl.cell (World.block_lt_of_cell? w p h)).trans h

theorem wp_region_ext {id : Nat} {Q : Exit → Act → World → Prop} {a : Act} {l : List Oper} (hm : P.follows .mixedOrders = true) (hB : Region.lexB .any l.toArray = true)
    (h : wpQuiet P l.toArray (fun w' => ∃ x : Ext w, w' = x.val) (fun a' => ∀ w', (∃ x : Ext w, w' = x.val) → Q .normal a' w') l a) : (Code.region id l.toArray true).wp P Q a w :=
  wp_region_quiet (C := fun w' => ∃ x : Ext w, w' = x.val) hm hB ⟨⟨w.drew, (Below.refl _ _).drew⟩, rfl⟩ (by simpa using h)
end
/-- The world of a goal under a letter, with what is known of it. -/
theorem absW {G : World → Prop} {W : World} (F : World → Prop) (hF : F W) (h : ∀ w, F w → G w) : G W := h W hF

/-- A file that points share. -/
structure Sh where
  tb : Int
  sz : Int
  sm : Int
  nm : Int
  wt : (Lit.int .u64 tb).wf = true
  ws : (Lit.int .i64 sz).wf = true
  wm : (Lit.int .u32 sm).wf = true
  wn : (Lit.int .u64 nm).wf = true
def zeroS : Sh := ⟨0, 0, 0, 0, by decide, by decide, by decide, by decide⟩
instance : Inhabited Sh := ⟨zeroS⟩
def shV (f : Sh) : Value := .agg #[.int .u64 f.tb, .int .i64 f.sz, .int .u32 f.sm, .int .u64 f.nm]
/-- A point: its number, its files, and where these stand. -/
structure Pt where
  id : Int
  fs : List Sh
  A : Option Addr
  c : Nat
def zeroP : Pt := ⟨0, [], none, 0⟩
instance : Inhabited Pt := ⟨zeroP⟩
def ptV (p : Pt) : Value := .agg #[.int .u64 p.id, .slice p.A p.fs.length p.c]
/-- From the address A on, in a block below B, the files fs stand. -/
def RdS (w : World) (B : Nat) (A : Option Addr) (fs : List Sh) : Prop :=
  0 < fs.length → ∃ b off, A = some ⟨b, off, none⟩ ∧ b < B ∧ B ≤ w.heap.size ∧ ∀ i, i < fs.length → w.cell? ⟨b, off + i * 4, none⟩ = some (.int .u64 (fs.getD i zeroS).tb) ∧ w.cell? ⟨b, off + i * 4 + 1, none⟩ = some (.int .i64 (fs.getD i zeroS).sz) ∧
    w.cell? ⟨b, off + i * 4 + 2, none⟩ = some (.int .u32 (fs.getD i zeroS).sm) ∧ w.cell? ⟨b, off + i * 4 + 3, none⟩ = some (.int .u64 (fs.getD i zeroS).nm)
theorem RdS.kw {w w' : World} {S : Nat → Prop} {B : Nat} {A : Option Addr} {l : List Sh} (h : RdS w B A l) (k : Kw S w w') (hS : ∀ b, b < B → ¬ S b) : RdS w' B A l := fun hl => by
  obtain ⟨b, off, e, hb, hB, hc⟩ := h hl
  refine ⟨b, off, e, hb, Nat.le_trans hB k.size, fun i hi => ?_⟩
  have hbw : b < w.heap.size := by omega
  obtain ⟨u0, u1, u2, u3⟩ := hc i hi
  exact ⟨(k.cell hbw (hS b hb)).trans u0, (k.cell hbw (hS b hb)).trans u1, (k.cell hbw (hS b hb)).trans u2, (k.cell hbw (hS b hb)).trans u3⟩
theorem RdS.below {w w' : World} {B : Nat} {A : Option Addr} {l : List Sh} (h : RdS w B A l) (k : Below B w w') : RdS w' B A l := fun hl => by
  obtain ⟨b, off, e, hb, hB, hc⟩ := h hl
  refine ⟨b, off, e, hb, Nat.le_trans hB k.size, fun i hi => ?_⟩
  obtain ⟨u0, u1, u2, u3⟩ := hc i hi
  exact ⟨(k.cell (p := ⟨b, _, none⟩) hb).trans u0, (k.cell (p := ⟨b, _, none⟩) hb).trans u1, (k.cell (p := ⟨b, _, none⟩) hb).trans u2, (k.cell (p := ⟨b, _, none⟩) hb).trans u3⟩
theorem RdS.more {w : World} {B B' : Nat} {A : Option Addr} {l : List Sh} (h : RdS w B A l) (h1 : B ≤ B') (h2 : B' ≤ w.heap.size) : RdS w B' A l := fun hl => by
  obtain ⟨b, off, e, hb, hB, hc⟩ := h hl
  exact ⟨b, off, e, by omega, h2, hc⟩
/-- From the address A on, in a block below B, the points l stand, with their files. -/
def RdP (w : World) (B : Nat) (A : Option Addr) (l : List Pt) : Prop :=
  (0 < l.length → ∃ b off, A = some ⟨b, off, none⟩ ∧ b < B ∧ B ≤ w.heap.size ∧ ∀ i, i < l.length → w.cell? ⟨b, off + i * 2, none⟩ = some (.int .u64 (l.getD i zeroP).id) ∧ w.cell? ⟨b, off + i * 2 + 1, none⟩ = some (.slice (l.getD i zeroP).A (l.getD i zeroP).fs.length (l.getD i zeroP).c)) ∧
    ∀ p ∈ l, RdS w B p.A p.fs ∧ p.fs.length ≤ p.c
theorem RdP.kw {w w' : World} {S : Nat → Prop} {B : Nat} {A : Option Addr} {l : List Pt} (h : RdP w B A l) (k : Kw S w w') (hS : ∀ b, b < B → ¬ S b) : RdP w' B A l := by
  refine ⟨fun hl => ?_, fun p hp => ⟨(h.2 p hp).1.kw k hS, (h.2 p hp).2⟩⟩
  obtain ⟨b, off, e, hb, hB, hc⟩ := h.1 hl
  refine ⟨b, off, e, hb, Nat.le_trans hB k.size, fun i hi => ?_⟩
  have hbw : b < w.heap.size := by omega
  obtain ⟨u0, u1⟩ := hc i hi
  exact ⟨(k.cell hbw (hS b hb)).trans u0, (k.cell hbw (hS b hb)).trans u1⟩
theorem RdP.below {w w' : World} {B : Nat} {A : Option Addr} {l : List Pt} (h : RdP w B A l) (k : Below B w w') : RdP w' B A l := by
  refine ⟨fun hl => ?_, fun p hp => ⟨(h.2 p hp).1.below k, (h.2 p hp).2⟩⟩
  obtain ⟨b, off, e, hb, hB, hc⟩ := h.1 hl
  refine ⟨b, off, e, hb, Nat.le_trans hB k.size, fun i hi => ?_⟩
  obtain ⟨u0, u1⟩ := hc i hi
  exact ⟨(k.cell (p := ⟨b, _, none⟩) hb).trans u0, (k.cell (p := ⟨b, _, none⟩) hb).trans u1⟩
theorem RdP.more {w : World} {B B' : Nat} {A : Option Addr} {l : List Pt} (h : RdP w B A l) (h1 : B ≤ B') (h2 : B' ≤ w.heap.size) : RdP w B' A l := by
  refine ⟨fun hl => ?_, fun p hp => ⟨(h.2 p hp).1.more h1 h2, (h.2 p hp).2⟩⟩
  obtain ⟨b, off, e, hb, hB, hc⟩ := h.1 hl
  exact ⟨b, off, e, by omega, h2, hc⟩
theorem getS {l : List Sh} {i : Nat} (h : i < l.length) : l.getD i zeroS = l[i] := by rw [List.getD_eq_getElem?_getD, List.getElem?_eq_getElem h]; rfl
theorem getP {l : List Pt} {i : Nat} (h : i < l.length) : l.getD i zeroP = l[i] := by rw [List.getD_eq_getElem?_getD, List.getElem?_eq_getElem h]; rfl
theorem getP_mem {l : List Pt} {i : Nat} (h : i < l.length) : l.getD i zeroP ∈ l := getP h ▸ List.getElem_mem h
theorem getS_mem {l : List Sh} {i : Nat} (h : i < l.length) : l.getD i zeroS ∈ l := getS h ▸ List.getElem_mem h

/-! Maps that count. -/
theorem u62 : Try.prog.underlying 62 = some (.map 23 3) := by kernel_rfl
theorem u23 : Try.prog.underlying 23 = some (.int .u64) := by kernel_rfl
theorem u3 : Try.prog.underlying 3 = some (.int .i64) := by kernel_rfl
theorem key23 {x : Int} (h : (Lit.int .u64 x).wf = true) : keyOf Try.prog 23 (.int .u64 x) = some (.int .u64 x) := Maps.keyOf_int_mk u23 h
theorem K23 : Keyed Try.prog 23 := Maps.int_keyed u23
theorem zero3 (w : World) : (zeroValue 3).run Try.prog w = .ok (.int .i64 0) w := by kernel_rfl
/-- Block b is a map that tells how often each number stands in L. -/
def CntAt (w : World) (b : Nat) (L : List Int) : Prop :=
  ∃ D : DataW Unit, w.ownsMap Try.prog 23 (plainElem Try.prog 3) b L.length D ∧ ∀ x, (Lit.int .u64 x).wf = true → D.atKey (.int .u64 x) (.lit (.int .i64 0)) = .lit (.int .i64 (L.count x : Nat)) ∧ (has D (.int .u64 x) = true ↔ x ∈ L)
theorem CntAt.lt {w : World} {b : Nat} {L : List Int} (h : CntAt w b L) : b < w.heap.size := by obtain ⟨D, h1, _⟩ := h; exact h1.lt
theorem CntAt.made (w : World) : CntAt (w.alloc (.map #[] 0)) w.heap.size [] := ⟨.map [], World.ownsMap_made w _ _ _, fun x _ => ⟨rfl, by simp [has]⟩⟩
theorem CntAt.kw {w w' : World} {S : Nat → Prop} {b : Nat} {L : List Int} (h : CntAt w b L) (k : Kw S w w') (hm : ¬ S b) : CntAt w' b L := by
  obtain ⟨D, ho, h1⟩ := h
  have hlt := ho.lt
  obtain ⟨es, clock, hb, F, hs, hD⟩ := ho
  exact ⟨D, ⟨es, clock, (k.block b hlt hm).trans hb, F, hs, hD⟩, h1⟩
theorem CntAt.below {w w' : World} {B b : Nat} {L : List Int} (h : CntAt w b L) (k : Below B w w') (hb : b < B) : CntAt w' b L :=
  h.kw (S := fun x => ¬ x < B) ⟨k.os, k.tape, k.output, k.size, fun i _ hs => k.block i (by omega)⟩ (by omega)
theorem CntAt.look {w : World} {b : Nat} {L : List Int} (h : CntAt w b L) {x : Int} (hx : (Lit.int .u64 x).wf = true) :
    (Instr.lookup 62 (.map (some b)) (.int .u64 x) false).run Try.prog w = .ok (.int .i64 (L.count x : Nat)) w := by
  obtain ⟨D, ho, h1⟩ := h
  obtain ⟨c, hrun, hat, hwc⟩ := ho.lookup_int K23 u62 u3 (zero3 w) (key23 hx)
  rw [(h1 x hx).1] at hat
  simp only [DataW.lit.injEq, Lit.int.injEq, true_and] at hat
  rw [hat]
  exact hrun
theorem CntAt.bump {w : World} {b : Nat} {L : List Int} (h : CntAt w b L) {x : Int} (hx : (Lit.int .u64 x).wf = true) (hL : L.length < 1000000) :
    ∃ w', (Instr.mapUpdate 62 (.map (some b)) (.int .u64 x) (.int .i64 ((L.count x : Nat) + 1))).run Try.prog w = .ok () w' ∧ CntAt w' b (x :: L) ∧ w.grownBy w' (some b) := by
  obtain ⟨D, ho, h1⟩ := h
  have hc : L.count x ≤ L.length := List.count_le_length
  have hwf : (Lit.int .i64 ((L.count x : Nat) + 1)).wf = true := by
    show (decide (IntKind.min .i64 ≤ ((L.count x : Nat) : Int) + 1) && decide (((L.count x : Nat) : Int) + 1 ≤ IntKind.max .i64)) = true
    rw [show IntKind.min .i64 = -9223372036854775808 by decide, show IntKind.max .i64 = 9223372036854775807 by decide, Bool.and_eq_true, decide_eq_true_eq, decide_eq_true_eq]
    omega
  obtain ⟨w', hrun, r1, r2⟩ := ho.update K23 u62 (by unfold maxLen; omega) (key23 hx) (plainElem_int u3 hwf)
  have hD := ho.isMap
  have hk : WideAt.IsKeyLit (.int .u64 x) := K23.key (key23 hx)
  refine ⟨w', hrun, ⟨_, r1, fun y hy => ?_⟩, r2⟩
  by_cases hyx : y = x
  · subst hyx
    rw [atKey_put_same hD hk, has_put_same hD hk]
    simp
  · have hne : (Lit.int .u64 y) ≠ (Lit.int .u64 x) := by simp [hyx]
    rw [atKey_put_other hne, has_put_other hne, (h1 y hy).1, (h1 y hy).2]
    refine ⟨?_, by simp [hyx]⟩
    rw [List.count_cons_of_ne (fun e => hyx e.symm)]
theorem wpList_look_cnt {ops : Array Oper} {rest : List Oper} {o : Oper} {a : Act} {Q : Exit → Act → World → Prop} (w : World) (hw : Region.wanted o (yielded ops a.tmps) = true) (m x : Operand) (hop : o.op = .lookup 62 m x false)
    (b : Nat) (L : List Int) (h : CntAt w b L) (hm : a.eval m = .map (some b)) (k : Int) (hk : (Lit.int .u64 k).wf = true) (hx : a.eval x = .int .u64 k)
    (cont : wpList Try.prog ops Q rest (a.put o.dst (.int .i64 (L.count k : Nat))) w) : wpList Try.prog ops Q (o :: rest) a w := by
  refine wpList_step fun K hK => ?_
  rw [if_pos hw]
  have hrun := h.look hk
  unfold Oper.wp
  simp [execOp, hop, hm, hx, hrun, Result.andThen]
  exact hK _ _ cont
theorem wpList_bump_cnt {ops : Array Oper} {rest : List Oper} {o : Oper} {a : Act} {Q : Exit → Act → World → Prop} (w : World) (hw : Region.wanted o (yielded ops a.tmps) = true) (m x v : Operand) (hop : o.op = .mapUpdate 62 m x v)
    (b : Nat) (L : List Int) (h : CntAt w b L) (hm : a.eval m = .map (some b)) (k : Int) (hk : (Lit.int .u64 k).wf = true) (hx : a.eval x = .int .u64 k) (hv : a.eval v = .int .i64 ((L.count k : Nat) + 1)) (hL : L.length < 1000000)
    (cont : ∀ w', CntAt w' b (k :: L) → w.grownBy w' (some b) → wpList Try.prog ops Q rest (a.put o.dst undef) w') : wpList Try.prog ops Q (o :: rest) a w := by
  refine wpList_step fun K hK => ?_
  rw [if_pos hw]
  obtain ⟨w', hrun, hc, hg⟩ := h.bump hk hL
  unfold Oper.wp
  simp [execOp, hop, hm, hx, hv, hrun, Result.andThen]
  exact hK _ _ (cont w' hc hg)
end Go.Proofs.Ytmalcekbhnkfgaa
