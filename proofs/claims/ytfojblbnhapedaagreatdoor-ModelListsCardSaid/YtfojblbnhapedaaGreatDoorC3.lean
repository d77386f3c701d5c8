/- Contract of marks.change. Conditions: as each theorem states them. -/
import Derived.Test.YtfojblbnhapedaaGreatDoorC2
import Derived.BigRegion
namespace Go.Proofs.YtfojblbnhapedaaGreatDoor
open Go.RowKit
set_option linter.unusedVariables false
set_option linter.unusedSimpArgs false

/-- The world keeps its blocks, but those of S. -/
structure Kw (S : Nat → Prop) (w w' : World) : Prop where
  os : w'.os = w.os
  tape : w'.tape = w.tape
  output : w'.output = w.output
  size : w.heap.size ≤ w'.heap.size
  block : ∀ b, b < w.heap.size → ¬ S b → w'.heap[b]? = w.heap[b]?
theorem Kw.refl (S : Nat → Prop) (w : World) : Kw S w w := ⟨rfl, rfl, rfl, Nat.le_refl _, fun _ _ _ => rfl⟩
theorem Kw.trans {S : Nat → Prop} {a b c : World} (h : Kw S a b) (k : Kw S b c) : Kw S a c :=
  ⟨k.os.trans h.os, k.tape.trans h.tape, k.output.trans h.output, Nat.le_trans h.size k.size, fun i hi hs => (k.block i (Nat.lt_of_lt_of_le hi h.size) hs).trans (h.block i hi hs)⟩
theorem Kw.mono {S T : Nat → Prop} {w w' : World} (h : Kw S w w') (hST : ∀ b, b < w.heap.size → S b → T b) : Kw T w w' :=
  ⟨h.os, h.tape, h.output, h.size, fun i hi hs => h.block i hi (fun hS => hs (hST i hi hS))⟩
theorem Kw.ofBelow {S : Nat → Prop} {w w' : World} (h : Below w.heap.size w w') : Kw S w w' := ⟨h.os, h.tape, h.output, h.size, fun b hb _ => h.block b hb⟩
theorem Kw.setCell {S : Nat → Prop} {a w : World} (h : Kw S a w) {p : Addr} (hp : S p.block) (v : Value) : Kw S a (w.setCell p v) :=
  ⟨h.os, h.tape, h.output, by simpa [World.setCell] using h.size, fun b hb hs => (Below.heap_setCell w p v b (fun e => hs (e ▸ hp))).trans (h.block b hb hs)⟩
theorem Kw.drew {S : Nat → Prop} {a w : World} (h : Kw S a w) : Kw S a w.drew := ⟨h.os, h.tape, h.output, h.size, h.block⟩
theorem Kw.drewN {S : Nat → Prop} {a w : World} (h : Kw S a w) (n : Nat) : Kw S a (w.drewN n) := h.trans (Kw.ofBelow (bl_drewN (Below.refl _ _) n))
theorem Kw.alloc {S : Nat → Prop} {a w : World} (h : Kw S a w) (o : Obj) : Kw S a (w.alloc o) := h.trans (Kw.ofBelow (bl_alloc (Below.refl _ _) o))
theorem Kw.grown {S : Nat → Prop} {a w w' : World} {row : Option Nat} (h : Kw S a w) (g : w.grownBy w' row) (hr : ∀ k, row = some k → S k) : Kw S a w' :=
  h.trans ⟨g.os, g.tape, g.output, g.size, fun i hi hs => g.block i hi (fun e => hs (hr i e.symm))⟩
theorem Kw.below {S : Nat → Prop} {w w' : World} {B : Nat} (h : Kw S w w') (hB : B ≤ w.heap.size) (hS : ∀ b, S b → B ≤ b) : Below B w w' :=
  ⟨h.os, h.tape, h.output, h.size, fun b hb => h.block b (by omega) (fun hs => by have := hS b hs; omega)⟩
theorem Kw.cell {S : Nat → Prop} {w w' : World} (h : Kw S w w') {b i : Nat} (hb : b < w.heap.size) (hs : ¬ S b) : w'.cell? ⟨b, i, none⟩ = w.cell? ⟨b, i, none⟩ := World.cell?_of_block (h.block b hb hs)
theorem Kw.frozen {S : Nat → Prop} {w w' : World} (h : Kw S w w') {b i : Nat} (hb : b < w.heap.size) (hs : ¬ S b) : w'.frozen? ⟨b, i, none⟩ = w.frozen? ⟨b, i, none⟩ := World.frozen?_of_block (h.block b hb hs)
theorem Kw.setNew {S : Nat → Prop} {a w : World} (h : Kw S a w) {p : Addr} (hp : a.heap.size ≤ p.block) (v : Value) : Kw S a (w.setCell p v) :=
  ⟨h.os, h.tape, h.output, by simpa [World.setCell] using h.size, fun b hb hs => (Below.heap_setCell w p v b (fun e => by omega)).trans (h.block b hb hs)⟩
theorem set_heap {W : World} {B i : Nat} {v : Value} {cs : Array Value} {t : TypeId} {fz : Nat × Nat} (h : W.heap[B]? = some (Obj.cells cs t fz)) : (W.setCell ⟨B, i, none⟩ v).heap[B]? = some (Obj.cells (cs.setIfInBounds i v) t fz) := by
  have hl := (Array.getElem?_eq_some_iff.1 h).1
  have h2 := (Array.getElem?_eq_some_iff.1 h).2
  simp only [World.setCell]
  rw [Array.getElem?_eq_getElem (by simpa using hl), Array.getElem_modify_self, h2]
  rfl
theorem i124 {l : List Src} (h : l.length = 16) : (Tryz.prog.info? 124).map (·.size) = some (scells l).length := by
  rw [scells_len, h]
  kernel_rfl
theorem scells_one (l : List Src) : ∀ u ∈ scells l, u.oneCell' = true := by
  intro u hu
  obtain ⟨p, _, hp⟩ := List.mem_flatMap.1 hu
  simp only [List.mem_cons, List.not_mem_nil, or_false] at hp
  rcases hp with rfl | rfl <;> rfl
theorem MkAt.range {w : World} {b : Nat} {m : Mk} (h : MkAt w b m) : w.rangeAt b 2 (scells m.all) := fun j v hv => by
  have hj := (List.getElem?_eq_some_iff.1 hv).1
  rw [cell_of h]
  unfold mkcells
  rw [List.getElem?_toArray, show 2 + j = j + 1 + 1 from by omega, List.getElem?_cons_succ, List.getElem?_cons_succ, List.getElem?_append_left hj]
  exact hv
theorem bl_setCells : ∀ (l : List Value) {B : Nat} {a w : World} (h : Below B a w) (X i : Nat), B ≤ X → Below B a (w.setCells X i l)
  | [], _, _, _, h, _, _, _ => h
  | v :: l, _, _, _, h, X, i, hX => by
    unfold World.setCells
    exact bl_setCells l (h.setCell hX v) X (i + 1) hX
theorem there_new (w : World) {n : Nat} (hn : n = 32) : (w.alloc (Obj.cells #[.int .i64 0, .bool false, .int .i64 0, .bool false, .int .i64 0, .bool false, .int .i64 0, .bool false, .int .i64 0, .bool false, .int .i64 0, .bool false, .int .i64 0, .bool false, .int .i64 0, .bool false, .int .i64 0, .bool false, .int .i64 0, .bool false, .int .i64 0, .bool false, .int .i64 0, .bool false, .int .i64 0, .bool false, .int .i64 0, .bool false, .int .i64 0, .bool false, .int .i64 0, .bool false] 124)).there w.heap.size 0 n := fun j hj => by
  have h := heap_alloc_new w (Obj.cells #[.int .i64 0, .bool false, .int .i64 0, .bool false, .int .i64 0, .bool false, .int .i64 0, .bool false, .int .i64 0, .bool false, .int .i64 0, .bool false, .int .i64 0, .bool false, .int .i64 0, .bool false, .int .i64 0, .bool false, .int .i64 0, .bool false, .int .i64 0, .bool false, .int .i64 0, .bool false, .int .i64 0, .bool false, .int .i64 0, .bool false, .int .i64 0, .bool false, .int .i64 0, .bool false] 124)
  rw [Nat.zero_add, cell_of h, froz_of h]
  refine ⟨?_, rfl⟩
  rw [Array.getElem?_eq_getElem (by rw [hn] at hj; exact hj)]
  rfl
theorem scells_set : ∀ (l : List Src) (k : Nat) (h : k < l.length) (a : Int) (c : Bool), ((scells l).set (k * 2) (.int .i64 a)).set (k * 2 + 1) (.bool c) = scells (l.set k (a, c))
  | [], k, h, _, _ => absurd h (Nat.not_lt_zero _)
  | f :: l, 0, h, a, c => rfl
  | f :: l, k + 1, h, a, c => by
    have ih := scells_set l k (by simpa using h) a c
    rw [show (k + 1) * 2 = k * 2 + 2 from by omega, show k * 2 + 2 + 1 = k * 2 + 1 + 2 from by omega]
    show ((Value.int .i64 f.1 :: Value.bool f.2 :: scells l).set (k * 2 + 2) (.int .i64 a)).set (k * 2 + 1 + 2) (.bool c) = Value.int .i64 f.1 :: Value.bool f.2 :: scells (l.set k (a, c))
    rw [← ih]
    rfl
theorem mkcells_set (m : Mk) (k : Nat) (h : k < m.all.length) (a : Int) (c : Bool) : ((mkcells m).setIfInBounds (2 + k * 2) (.int .i64 a)).setIfInBounds (2 + k * 2 + 1) (.bool c) = mkcells { m with all := m.all.set k (a, c) } := by
  have hl := scells_len m.all
  unfold mkcells
  rw [List.setIfInBounds_toArray, List.setIfInBounds_toArray, show 2 + k * 2 + 1 = k * 2 + 1 + 1 + 1 from by omega, show 2 + k * 2 = k * 2 + 1 + 1 from by omega]
  rw [List.set_cons_succ, List.set_cons_succ, List.set_cons_succ, List.set_cons_succ, List.set_append_left _ _ (by omega), List.set_append_left _ _ (by rw [List.length_set]; omega), scells_set m.all k h]
theorem MkAt.set {w : World} {b k : Nat} {m : Mk} (h : MkAt w b m) (hk : k < m.all.length) (a : Int) (c : Bool) : MkAt ((w.setCell ⟨b, 2 + k * 2, none⟩ (.int .i64 a)).setCell ⟨b, 2 + k * 2 + 1, none⟩ (.bool c)) b { m with all := m.all.set k (a, c) } := by
  have h2 := set_heap (i := 2 + k * 2 + 1) (v := .bool c) (set_heap (i := 2 + k * 2) (v := .int .i64 a) h)
  rw [mkcells_set m k hk] at h2
  exact h2
theorem mkcells_now (m : Mk) (hl : m.all.length = 16) (x : Int) : (mkcells m).setIfInBounds 34 (.int .i64 x) = mkcells { m with now := x } := by
  have h2 := scells_len m.all
  unfold mkcells
  rw [List.setIfInBounds_toArray, List.set_cons_succ, List.set_cons_succ, List.set_append_right _ _ (by omega), show 32 - (scells m.all).length = 0 from by omega]
  rfl
theorem MkAt.setNow {w : World} {b : Nat} {m : Mk} (h : MkAt w b m) (hl : m.all.length = 16) (x : Int) : MkAt (w.setCell ⟨b, 34, none⟩ (.int .i64 x)) b { m with now := x } := by
  have h2 := set_heap (i := 34) (v := .int .i64 x) h
  rw [mkcells_now m hl] at h2
  exact h2
theorem OkM.set {m : Mk} (h : OkM m) (k : Nat) {t : Src} (h1 : -1127000000000000 ≤ t.1) (h2 : t.1 ≤ 1125899906842624) : OkM { m with all := m.all.set k t } := by
  refine ⟨h.n1, h.n2, by show (m.all.set k t).length = 16; rw [List.length_set]; exact h.len, h.b1, h.b2, fun p hp => ?_, h.now1, h.now2⟩
  rcases List.mem_or_eq_of_mem_set hp with hp | rfl
  · exact h.ms p hp
  · exact ⟨h1, h2⟩
/-- A source becomes another one. -/
def Mk.change (m : Mk) (k : Nat) (t : Src) : Mk := if m.all.getD k (0, false) = t then m else { m with all := m.all.set k t, now := if (leastF ((m.all.set k t).take m.n)).2 then max m.now (leastF ((m.all.set k t).take m.n)).1 else m.now }
theorem set_eq_iff {l : List Src} {k : Nat} (h : k < l.length) (t : Src) : l = l.set k t ↔ l.getD k (0, false) = t := by
  have hg : l.getD k (0, false) = l[k] := by rw [List.getD_eq_getElem?_getD, List.getElem?_eq_getElem h]; rfl
  rw [hg]
  constructor
  · intro e
    have h2 : l[k]? = (l.set k t)[k]? := by rw [← e]
    rw [List.getElem?_set_self h, List.getElem?_eq_getElem h] at h2
    exact Option.some.inj h2
  · intro e
    rw [← e]
    exact (List.set_getElem_self h).symm
/-- A load of a row in the midst of a block, in a region that only reads. -/
theorem wpQuiet_load_mid {W : World} {ops : Array Oper} {rest : List Oper} {o : Oper} {a : Act} {Q : Act → Prop} (hgd : o.guard = none) (ty : TypeId) (x : Operand) (ho : o.op = .load ty x)
    (b off : Nat) (hx : a.eval x = .pointer (some ⟨b, off, none⟩)) (cs : List Value) (d : TypeDesc) (hc : ∀ y : Ext W, y.val.rangeAt b off cs)
    (hu : Tryz.prog.underlying ty = some d) (hd : d.isRow = true) (hi : (Tryz.prog.info? ty).map (·.size) = some cs.length)
    (h : wpQuiet Tryz.prog ops (fun w' => ∃ x : Ext W, w' = x.val) Q rest (a.put o.dst (.agg cs.toArray))) : wpQuiet Tryz.prog ops (fun w' => ∃ x : Ext W, w' = x.val) Q (o :: rest) a := by
  have hw : Region.wanted o (yielded ops a.tmps) = true := by simp [Region.wanted, hgd]
  unfold wpQuiet
  rw [if_pos hw]
  refine ⟨_, fun w hC => ?_, h⟩
  obtain ⟨y, rfl⟩ := hC
  unfold Oper.quietAt execOp
  simp only [ho, hx, Instr.loadAt, Instr.sureAddr, Sem.run_bind, Sem.run_pure, Result.andThen_ok, run_loadVar_mid y.val b off ty cs d (hc y) hu hd hi]
  exact ⟨rfl, rfl⟩
theorem range_ext {W : World} {b off : Nat} {cs : List Value} (h : W.rangeAt b off cs) : ∀ y : Ext W, y.val.rangeAt b off cs := fun y j u hu => ext_cell (h j u hu) y
theorem range_other {w : World} {X o b i : Nat} {cs : List Value} {v : Value} (h : w.rangeAt X o cs) (hne : X ≠ b) : (w.setCell ⟨b, i, none⟩ v).rangeAt X o cs := fun j u hu =>
  (World.cell?_setCell_other w _ _ _ (fun e => hne (by have := congrArg Addr.block e; simpa using this.symm))).trans (h j u hu)
set_option maxRecDepth 100000 in
set_option maxHeartbeats 8000000 in
theorem change_any (b k : Nat) (t : Src) (m : Mk) (w : World) (h : MkAt w b m) (ok : OkM m) (hk : k < m.n) (ht1 : -1127000000000000 ≤ t.1) (ht2 : t.1 ≤ 1125899906842624) :
    Calls Tryz.prog 65 #[ptrV b, .int .i64 k, .agg #[.int .i64 t.1, .bool t.2]] w fun e w' => e = .returned (.tuple #[]) ∧ MkAt w' b (m.change k t) ∧ Kw (fun x => x = b) w w' := by
  obtain ⟨mk, idle⟩ := t
  dsimp only at *
  have hb0 := bl_alloc (Below.refl w.heap.size w) (Obj.cells #[.int .i64 mk, .bool idle] 123)
  have HR1 := Lib.hid (h.below hb0).range
  have HI := Lib.hid (i124 ok.len)
  have HU := Lib.hid u124
  have hsz : (scells m.all).toArray.size = 32 := by rw [List.size_toArray, scells_len, ok.len]
  have HT : Hid (((w.alloc (Obj.cells #[.int .i64 mk, .bool idle] 123)).alloc (Obj.cells #[.int .i64 0, .bool false, .int .i64 0, .bool false, .int .i64 0, .bool false, .int .i64 0, .bool false, .int .i64 0, .bool false, .int .i64 0, .bool false, .int .i64 0, .bool false, .int .i64 0, .bool false, .int .i64 0, .bool false, .int .i64 0, .bool false, .int .i64 0, .bool false, .int .i64 0, .bool false, .int .i64 0, .bool false, .int .i64 0, .bool false, .int .i64 0, .bool false, .int .i64 0, .bool false] 124)).there (w.heap.size + 1) 0 (scells m.all).toArray.size) := Lib.hid (by
    have h := there_new (w.alloc (Obj.cells #[.int .i64 mk, .bool idle] 123)) hsz
    rw [show (w.alloc (Obj.cells #[.int .i64 mk, .bool idle] 123)).heap.size = w.heap.size + 1 from by simp] at h
    exact h)
  have HI2 : Hid ((Tryz.prog.info? 124).map (·.size) = some (scells m.all).toArray.size) := Lib.hid (by rw [List.size_toArray]; exact HI.out)
  have HOC := Lib.hid (all_oneCell_toArray (scells_one m.all))
  have hl := h.lt
  unfold ptrV
  clear hb0 hsz
  go_enter Tryz.func65, Tryz.ntmps65
  go_wp2_with (first | (refine wpList_load_mid rfl 124 (.tmp 11) rfl b 2 rfl (scells m.all) _ HR1.out HU.out rfl HI.out ?_) | (refine wpList_store_mid rfl 124 (.tmp 6) (.tmp 12) rfl (w.heap.size + 1) 0 (scells m.all).toArray rfl rfl HT.out HI2.out HOC.out ?_))
  have hk0 : Below w.heap.size w ((w.alloc (Obj.cells #[.int .i64 mk, .bool idle] 123)).alloc (Obj.cells #[.int .i64 0, .bool false, .int .i64 0, .bool false, .int .i64 0, .bool false, .int .i64 0, .bool false, .int .i64 0, .bool false, .int .i64 0, .bool false, .int .i64 0, .bool false, .int .i64 0, .bool false, .int .i64 0, .bool false, .int .i64 0, .bool false, .int .i64 0, .bool false, .int .i64 0, .bool false, .int .i64 0, .bool false, .int .i64 0, .bool false, .int .i64 0, .bool false, .int .i64 0, .bool false] 124)) := bl_alloc (bl_alloc (Below.refl _ _) _) _
  have K3 : Hid (Below w.heap.size w (((w.alloc (Obj.cells #[.int .i64 mk, .bool idle] 123)).alloc (Obj.cells #[.int .i64 0, .bool false, .int .i64 0, .bool false, .int .i64 0, .bool false, .int .i64 0, .bool false, .int .i64 0, .bool false, .int .i64 0, .bool false, .int .i64 0, .bool false, .int .i64 0, .bool false, .int .i64 0, .bool false, .int .i64 0, .bool false, .int .i64 0, .bool false, .int .i64 0, .bool false, .int .i64 0, .bool false, .int .i64 0, .bool false, .int .i64 0, .bool false, .int .i64 0, .bool false] 124)).setCells (w.heap.size + 1) 0 (scells m.all))) := Lib.hid (bl_setCells _ hk0 _ _ (by omega))
  have hk1 : Below (w.heap.size + 1) (w.alloc (Obj.cells #[.int .i64 mk, .bool idle] 123)) (((w.alloc (Obj.cells #[.int .i64 mk, .bool idle] 123)).alloc (Obj.cells #[.int .i64 0, .bool false, .int .i64 0, .bool false, .int .i64 0, .bool false, .int .i64 0, .bool false, .int .i64 0, .bool false, .int .i64 0, .bool false, .int .i64 0, .bool false, .int .i64 0, .bool false, .int .i64 0, .bool false, .int .i64 0, .bool false, .int .i64 0, .bool false, .int .i64 0, .bool false, .int .i64 0, .bool false, .int .i64 0, .bool false, .int .i64 0, .bool false, .int .i64 0, .bool false] 124)).setCells (w.heap.size + 1) 0 (scells m.all)) := bl_setCells _ (((Below.refl _ _).alloc (by simp) _)) _ _ (Nat.le_refl _)
  have HBX : Hid ((((w.alloc (Obj.cells #[.int .i64 mk, .bool idle] 123)).alloc (Obj.cells #[.int .i64 0, .bool false, .int .i64 0, .bool false, .int .i64 0, .bool false, .int .i64 0, .bool false, .int .i64 0, .bool false, .int .i64 0, .bool false, .int .i64 0, .bool false, .int .i64 0, .bool false, .int .i64 0, .bool false, .int .i64 0, .bool false, .int .i64 0, .bool false, .int .i64 0, .bool false, .int .i64 0, .bool false, .int .i64 0, .bool false, .int .i64 0, .bool false, .int .i64 0, .bool false] 124)).setCells (w.heap.size + 1) 0 (scells m.all)).heap[w.heap.size]? = some (Obj.cells #[.int .i64 mk, .bool idle] 123)) := Lib.hid ((hk1.block _ (by omega)).trans (heap_alloc_new w _))
  have HRX : Hid ((((w.alloc (Obj.cells #[.int .i64 mk, .bool idle] 123)).alloc (Obj.cells #[.int .i64 0, .bool false, .int .i64 0, .bool false, .int .i64 0, .bool false, .int .i64 0, .bool false, .int .i64 0, .bool false, .int .i64 0, .bool false, .int .i64 0, .bool false, .int .i64 0, .bool false, .int .i64 0, .bool false, .int .i64 0, .bool false, .int .i64 0, .bool false, .int .i64 0, .bool false, .int .i64 0, .bool false, .int .i64 0, .bool false, .int .i64 0, .bool false, .int .i64 0, .bool false] 124)).setCells (w.heap.size + 1) 0 (scells m.all)).rangeAt (w.heap.size + 1) 0 (scells m.all)) := Lib.hid (World.rangeAt_setCells_same _ _ _ _ (by have h := HT.out; rw [List.size_toArray] at h; exact h))
  have HM3 := Lib.hid (h.below K3.out)
  clear hk0 hk1 HT HI2 HR1
  generalize (((w.alloc (Obj.cells #[.int .i64 mk, .bool idle] 123)).alloc (Obj.cells #[.int .i64 0, .bool false, .int .i64 0, .bool false, .int .i64 0, .bool false, .int .i64 0, .bool false, .int .i64 0, .bool false, .int .i64 0, .bool false, .int .i64 0, .bool false, .int .i64 0, .bool false, .int .i64 0, .bool false, .int .i64 0, .bool false, .int .i64 0, .bool false, .int .i64 0, .bool false, .int .i64 0, .bool false, .int .i64 0, .bool false, .int .i64 0, .bool false, .int .i64 0, .bool false] 124)).setCells (w.heap.size + 1) 0 (scells m.all)) = W3 at *
  have x0 := cell_of HBX.out 0
  have x1 := cell_of HBX.out 1
  simp only [List.getElem?_toArray, List.getElem?_cons_zero, List.getElem?_cons_succ] at x0 x1
  have xl := (Array.getElem?_eq_some_iff.1 HBX.out).1
  have hka : k < m.all.length := by have := ok.len; have := ok.n2; omega
  obtain ⟨s0, s1⟩ := HM3.out.src hka
  have f0 := HM3.out.fz (2 + k * 2)
  have f1 := HM3.out.fz (2 + k * 2 + 1)
  have bl := HM3.out.lt
  have g0 : (0 : Int) ≤ (k : Int) := by omega
  have g1 : (k : Int) < 16 := by have := ok.n2; omega
  have OK := Lib.hid ok
  have HM := Lib.hid h
  obtain ⟨m2, hm2⟩ : ∃ m2, { m with all := m.all.set k (mk, idle) } = m2 := ⟨_, rfl⟩
  have HM4 : Hid (MkAt ((W3.setCell ⟨b, 2 + k * 2, none⟩ (.int .i64 mk)).setCell ⟨b, 2 + k * 2 + 1, none⟩ (.bool idle)).drew b m2) := Lib.hid (by
    rw [← hm2]
    exact (HM3.out.set hka mk idle).below (Below.refl _ _).drew)
  have HRX4 : Hid (((W3.setCell ⟨b, 2 + k * 2, none⟩ (.int .i64 mk)).setCell ⟨b, 2 + k * 2 + 1, none⟩ (.bool idle)).drew.rangeAt (w.heap.size + 1) 0 (scells m.all)) := Lib.hid ((World.rangeAt_drew _ _ _ _).2 (range_other (range_other HRX.out (by omega)) (by omega)))
  have HK4 : Hid (Kw (fun x => x = b) w ((W3.setCell ⟨b, 2 + k * 2, none⟩ (.int .i64 mk)).setCell ⟨b, 2 + k * 2 + 1, none⟩ (.bool idle)).drew) := Lib.hid ((((Kw.ofBelow (S := fun x => x = b) K3.out).setCell (p := ⟨b, 2 + k * 2, none⟩) rfl _).setCell (p := ⟨b, 2 + k * 2 + 1, none⟩) rfl _).drew)
  have ok2 : OkM m2 ∨ True := .inr trivial
  have hl2 : m2.all.length = 16 := by rw [← hm2]; show (m.all.set k _).length = 16; rw [List.length_set]; exact ok.len
  have HE : Hid (∀ w, (binOp .eql 124 (.agg (scells m.all).toArray) (.agg (scells m2.all).toArray)).run Tryz.prog w = .ok (.bool (decide (m.all.getD k (0, false) = (mk, idle)))) w) := Lib.hid (fun w => by
    rw [eql_srcs w m.all m2.all ok.len hl2]
    have e : (m.all = m2.all) ↔ m.all.getD k (0, false) = (mk, idle) := by
      rw [← hm2]
      exact set_eq_iff hka (mk, idle)
    simp only [e])
  have hi := i124 ok.len
  have hi2 := i124 hl2
  have hn1 : (scells m.all).length = 32 := by rw [scells_len, ok.len]
  have hn2 : (scells m2.all).length = 32 := by rw [scells_len, hl2]
  have hu := u124
  have ho1 := scells_one m.all
  have ho2 := scells_one m2.all
  have HM2 := Lib.hid hm2
  go_region
  clear x0 x1 xl s0 s1 f0 f1 HRX HM3 HBX K3
  generalize ((W3.setCell ⟨b, 2 + k * 2, none⟩ (.int .i64 mk)).setCell ⟨b, 2 + k * 2 + 1, none⟩ (.bool idle)).drew = W4 at *
  have hr1 : W4.rangeAt (w.heap.size + 1) 0 (scells m.all) := HRX4.out
  have hr2 : W4.rangeAt b 2 (scells m2.all) := HM4.out.range
  have he := HE.out
  obtain ⟨r, hrr⟩ : ∃ r, decide (m.all.getD k (0, false) = (mk, idle)) = r := ⟨_, rfl⟩
  rw [hrr] at he
  have HRR := Lib.hid hrr
  clear hrr HE
  clear h ok hm2 HU HOC
  go_wp2_with (fail)
  have hq1 := range_ext hr1
  have hq2 := range_ext hr2
  have bl4 := HM4.out.lt
  refine wp_region_ext (by kernel_rfl) (by kernel_rfl) ?_
  refine wpQuiet_load_mid rfl 124 (.tmp 6) rfl (w.heap.size + 1) 0 rfl (scells m.all) _ hq1 hu rfl hi ?_
  go_simp
  clear hq1 hr1 hr2
  have HQ2 := Lib.hid hq2
  clear hq2
  go_big_quiet_step (fail)
  go_big_quiet_step (fail)
  go_big_quiet_step (fail)
  refine wpQuiet_load_mid rfl 124 (.tmp 22) rfl b 2 rfl (scells m2.all) _ HQ2.out hu rfl hi2 ?_
  go_simp
  clear hu hi hi2 hn1 hn2 ho1 ho2
  repeat (go_big_quiet_step (fail))
  refine wpQuiet_nil ?_
  rintro ⟨w8, hb8⟩
  dsimp only
  have HM8 := Lib.hid (HM4.out.below hb8)
  have HK8 := Lib.hid (HK4.out.trans (Kw.ofBelow hb8))
  clear hb8 he HQ2
  cases r with
  | true =>
    have HEQ : Hid (m.change k (mk, idle) = m2) := Lib.hid (by
      have e := of_decide_eq_true HRR.out
      have e2 := (set_eq_iff hka (mk, idle)).2 e
      rw [← HM2.out, ← e2]
      unfold Mk.change
      rw [if_pos e])
    go_wp2_with (fail)
    exact bodyPost_ret (v := .tuple #[]) (by simp [results, Tryz.results65, go_sem]) rfl ⟨rfl, by rw [HEQ.out]; exact HM8.out, HK8.out⟩
  | false =>
    have hne := of_decide_eq_false HRR.out
    have HNE := Lib.hid hne
    have HO2 : Hid (OkM m2) := Lib.hid (by rw [← HM2.out]; exact OK.out.set k ht1 ht2)
    have HLS := Lib.hid (least_any b m2 w8 HM8.out HO2.out)
    obtain ⟨⟨ls, lo⟩, hls⟩ : ∃ q, leastF (m2.all.take m2.n) = q := ⟨_, rfl⟩
    rw [hls] at HLS
    have HLL := Lib.hid hls
    unfold ptrV at HLS
    dsimp only at HLS
    clear hls hne
    go_wp2_with (fail)
    refine HLS.out.mono ?_
    rintro q w9 ⟨rfl, hb9⟩
    have HM9 := Lib.hid (HM8.out.below hb9)
    have HK9 := Lib.hid (HK8.out.trans (Kw.ofBelow hb9))
    clear hb9
    cases lo with
    | false =>
      have HEQ : Hid (m.change k (mk, idle) = m2) := Lib.hid (by
        have h1 := HLL.out
        rw [← HM2.out] at h1 ⊢
        unfold Mk.change
        rw [if_neg HNE.out]
        rw [show (leastF ((m.all.set k (mk, idle)).take m.n)) = (ls, false) from h1]
        rfl)
      go_wp2_with (fail)
      go_end0
      exact ⟨rfl, by rw [HEQ.out]; exact HM9.out, HK9.out⟩
    | true =>
      have c34 := HM9.out.nowc HO2.out.len
      have f34 := HM9.out.fz 34
      have l34 := HM9.out.lt
      have HEQ : Hid (m.change k (mk, idle) = { m2 with now := max m2.now ls }) := Lib.hid (by
        have h1 := HLL.out
        rw [← HM2.out] at h1 ⊢
        unfold Mk.change
        rw [if_neg HNE.out]
        rw [show (leastF ((m.all.set k (mk, idle)).take m.n)) = (ls, true) from h1]
        rfl)
      by_cases hle : ls ≤ m2.now
      · have HMX : Hid (MkAt (w9.setCell ⟨b, 34, none⟩ (.int .i64 m2.now)) b { m2 with now := max m2.now ls }) := Lib.hid (by
          rw [Int.max_eq_left hle]
          exact HM9.out.setNow HO2.out.len _)
        go_wp2_with (fail)
        go_end0
        exact ⟨rfl, by rw [HEQ.out]; exact HMX.out, HK9.out.setCell (p := ⟨b, 34, none⟩) rfl _⟩
      · have HMX : Hid (MkAt (w9.setCell ⟨b, 34, none⟩ (.int .i64 ls)) b { m2 with now := max m2.now ls }) := Lib.hid (by
          rw [Int.max_eq_right (by omega)]
          exact HM9.out.setNow HO2.out.len _)
        go_wp2_with (fail)
        go_end0
        exact ⟨rfl, by rw [HEQ.out]; exact HMX.out, HK9.out.setCell (p := ⟨b, 34, none⟩) rfl _⟩
end Go.Proofs.YtfojblbnhapedaaGreatDoor
