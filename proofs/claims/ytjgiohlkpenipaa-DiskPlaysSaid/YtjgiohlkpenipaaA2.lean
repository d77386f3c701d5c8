/- Contracts of ready and named. Conditions: as each theorem states them. -/
import Derived.Test.YtjgiohlkpenipaaProg
import Derived.WalkKit
import Derived.WalkLawsBesides
import Derived.WalkSpells
import Derived.Deep.QuietTactic
import Derived.BigQuiet
import Derived.Lib.Hide
import Derived.Maps.OwnSet
import Derived.Maps.OwnOps
import Derived.Carry
import Derived.Deep.DeepFit
import Derived.Deep.DeepMust
import Derived.Laws.EntriesVeiled
import Derived.StillTailTactics
import Derived.Deep.RegionHeld3
import Derived.Deep.RegionWith
import Derived.Sort.KeysCollected
import Derived.Sort.MapsRangeIn
import Derived.Lib.Strings
namespace Go.Proofs.Ytjgiohlkpenipaa
open Go.RowKit Go.Maps
set_option linter.unusedVariables false
set_option linter.unusedSimpArgs false

theorem bl_alloc {w W : World} (h : Below w.heap.size w W) (o : Obj) : Below w.heap.size w (W.alloc o) := h.alloc h.size o
theorem bl_then {w W W' : World} (h : Below w.heap.size w W) (k : Below W.heap.size W W') : Below w.heap.size w W' := h.trans (k.mono h.size)
theorem bl_drewN {B : Nat} {a w : World} (h : Below B a w) (n : Nat) : Below B a (w.drewN n) := ⟨h.os, h.tape, h.output, h.size, h.block⟩
/-- The world keeps its blocks, but those of S. -/
structure Kw (S : Nat → Prop) (w w' : World) : Prop where
  os : w'.os = w.os
  tape : w'.tape = w.tape
  output : w'.output = w.output
  size : w.heap.size ≤ w'.heap.size
  block : ∀ b, b < w.heap.size → ¬ S b → w'.heap[b]? = w.heap[b]?
theorem Kw.refl (S : Nat → Prop) (w : World) : Kw S w w := ⟨rfl, rfl, rfl, Nat.le_refl _, fun _ _ _ => rfl⟩
theorem Kw.trans {S : Nat → Prop} {a b c : World} (h : Kw S a b) (k : Kw S b c) : Kw S a c :=
  ⟨k.os.trans h.os, k.tape.trans h.tape, k.output.trans h.output, Nat.le_trans h.size k.size, fun i hi hs => (k.block i (Nat.lt_of_lt_of_le hi h.size) hs).trans (h.block i hi hs)⟩
theorem Kw.mono {S T : Nat → Prop} {w w' : World} (h : Kw S w w') (hST : ∀ b, b < w.heap.size → S b → T b) : Kw T w w' :=
  ⟨h.os, h.tape, h.output, h.size, fun i hi hs => h.block i hi (fun hS => hs (hST i hi hS))⟩
theorem Kw.ofBelow {S : Nat → Prop} {w w' : World} (h : Below w.heap.size w w') : Kw S w w' := ⟨h.os, h.tape, h.output, h.size, fun b hb _ => h.block b hb⟩
theorem Kw.setCell {S : Nat → Prop} {a w : World} (h : Kw S a w) {p : Addr} (hp : S p.block) (v : Value) : Kw S a (w.setCell p v) :=
  ⟨h.os, h.tape, h.output, by simpa [World.setCell] using h.size, fun b hb hs => (Below.heap_setCell w p v b (fun e => hs (e ▸ hp))).trans (h.block b hb hs)⟩
theorem Kw.drew {S : Nat → Prop} {a w : World} (h : Kw S a w) : Kw S a w.drew := ⟨h.os, h.tape, h.output, h.size, h.block⟩
theorem Kw.drewN {S : Nat → Prop} {a w : World} (h : Kw S a w) (n : Nat) : Kw S a (w.drewN n) := h.trans (Kw.ofBelow (bl_drewN (Below.refl _ _) n))
theorem Kw.alloc {S : Nat → Prop} {a w : World} (h : Kw S a w) (o : Obj) : Kw S a (w.alloc o) := h.trans (Kw.ofBelow (bl_alloc (Below.refl _ _) o))
theorem Kw.grown {S : Nat → Prop} {a w w' : World} {row : Option Nat} (h : Kw S a w) (g : w.grownBy w' row) (hr : ∀ k, row = some k → S k) : Kw S a w' :=
  h.trans ⟨g.os, g.tape, g.output, g.size, fun i hi hs => g.block i hi (fun e => hs (hr i e.symm))⟩
theorem Kw.below {S : Nat → Prop} {w w' : World} {B : Nat} (h : Kw S w w') (hB : B ≤ w.heap.size) (hS : ∀ b, S b → B ≤ b) : Below B w w' :=
  ⟨h.os, h.tape, h.output, h.size, fun b hb => h.block b (by omega) (fun hs => by have := hS b hs; omega)⟩
theorem Kw.cell {S : Nat → Prop} {w w' : World} (h : Kw S w w') {b i : Nat} (hb : b < w.heap.size) (hs : ¬ S b) : w'.cell? ⟨b, i, none⟩ = w.cell? ⟨b, i, none⟩ := World.cell?_of_block (h.block b hb hs)
theorem Kw.frozen {S : Nat → Prop} {w w' : World} (h : Kw S w w') {b i : Nat} (hb : b < w.heap.size) (hs : ¬ S b) : w'.frozen? ⟨b, i, none⟩ = w.frozen? ⟨b, i, none⟩ := World.frozen?_of_block (h.block b hb hs)
/-! Regions that draw their order, read, and call functions that make memory of their own: the worlds that are as w was below w's size. -/
def Ext (w : World) : Type := { w' : World // Below w.heap.size w w' }
instance (w : World) : Nonempty (Ext w) := ⟨⟨w, Below.refl _ _⟩⟩
theorem Ext.bl {w : World} (x : Ext w) : Below w.heap.size w x.val := x.property

section
variable {P : Program} {w : World}
theorem ext_calls {f : FuncId} {args : Array Value} {x : Ext w} {v : Value} (h : Calls P f args x.val fun e w' => e = .returned v ∧ Below x.val.heap.size x.val w') :
    Calls P f args x.val fun e w'' => e = .returned v ∧ ∃ y : Ext w, w'' = y.val :=
  h.mono fun _ w'' ⟨he, hb⟩ => ⟨he, ⟨w'', x.bl.trans (hb.mono x.bl.size)⟩, rfl⟩
theorem ext_calls_same {f : FuncId} {args : Array Value} {x : Ext w} {v : Value} (h : Calls P f args x.val fun e w' => e = .returned v ∧ x.val = w') :
    Calls P f args x.val fun e w'' => e = .returned v ∧ ∃ y : Ext w, w'' = y.val :=
  h.mono fun _ _ ⟨he, hb⟩ => ⟨he, x, hb.symm⟩
theorem ext_cell {p : Addr} {v : Value} (h : w.cell? p = some v) : ∀ x : Ext w, x.val.cell? p = some v := fun x => (x.bl.cell (World.block_lt_of_cell? w p h)).trans h

theorem wp_region_ext {id : Nat} {Q : Exit → Act → World → Prop} {a : Act} {l : List Oper} (hm : P.follows .mixedOrders = true) (hB : Region.lexB .any l.toArray = true)
    (h : wpQuiet P l.toArray (fun w' => ∃ x : Ext w, w' = x.val) (fun a' => ∀ w', (∃ x : Ext w, w' = x.val) → Q .normal a' w') l a) : (Code.region id l.toArray true).wp P Q a w :=
  wp_region_quiet (C := fun w' => ∃ x : Ext w, w' = x.val) hm hB ⟨⟨w.drew, (Below.refl _ _).drew⟩, rfl⟩ (by simpa using h)
end
/-- The world of a goal under a letter, with what is known of it. -/
theorem absW {G : World → Prop} {W : World} (F : World → Prop) (hF : F W) (h : ∀ w, F w → G w) : G W := h W hF


/-! ## A disk, in plain words -/
/-- A file: its bytes, of which the first so many are sure. -/
structure Fl where
  data : ByteArray
  sure : Nat
def zeroF : Fl := ⟨ByteArray.empty, 0⟩
instance : Inhabited Fl := ⟨zeroF⟩
/-- A change of the directory: a file came under a name (no from), was renamed, or a name went (no to). -/
structure Ch where
  frm : ByteArray
  to : ByteArray
  fi : Nat
/-- A directory: names with the numbers of their files. -/
abbrev Dir := List (ByteArray × Nat)
/-- Without a name. -/
def wo (l : Dir) (n : ByteArray) : Dir := l.filter (fun p => decide (p.1 ≠ n))
/-- Go's order of names. -/
def bLt (a b : ByteArray) : Bool := decide (a.data.toList < b.data.toList)
/-- A name put where it belongs. -/
def ins (n : ByteArray) (f : Nat) : Dir → Dir
  | [] => [(n, f)]
  | p :: l => if bLt n p.1 then (n, f) :: p :: l else p :: ins n f l
def wi (l : Dir) (n : ByteArray) (f : Nat) : Dir := ins n f (wo l n)
/-- The file of a name. -/
def look (l : Dir) (n : ByteArray) : Option Nat := (l.find? (fun p => decide (p.1 = n))).map Prod.snd
/-- A directory behind a change. -/
def alt (l : Dir) (c : Ch) : Dir :=
  let l1 := if c.frm = ByteArray.empty then l else wo l c.frm
  if c.to = ByteArray.empty then l1 else wi l1 c.to c.fi
/-- A disk. -/
structure DS where
  room : Nat
  steps : Nat
  fuse : Nat
  down : Bool
  files : List Fl
  dir : Dir
  kept : Dir
  waits : List Ch
def DS.file (s : DS) (i : Nat) : Fl := s.files.getD i zeroF

/-! ## Maps of names in memory -/
def ptrV (b : Nat) : Value := .pointer (some ⟨b, 0, none⟩)
theorem u57 : Try.prog.underlying 57 = some (.map 9 63) := by kernel_rfl
theorem zero63 (w : World) : (zeroValue 63).run Try.prog w = .ok (.pointer none) w := by kernel_rfl
theorem keyS : Keyed Try.prog 9 := string_keyed Try.underlying9
/-- A name that may be a key. -/
def okN (x : ByteArray) : Prop := x.size ≤ maxLen
def klS (x : ByteArray) : Lit := .string x.data.toList
theorem key_some {x : ByteArray} (h : okN x) : keyOf Try.prog 9 (.string x) = some (klS x) := by
  unfold okN at h
  simp [keyOf, Try.underlying9, mapKey, klS, h]
theorem kl_inj {x y : ByteArray} (h : klS x = klS y) : x = y := by
  unfold klS at h
  have h := Lit.string.inj h
  cases x; cases y
  simp at h
  simp [h]
theorem kl_key {x : ByteArray} (hx : okN x) : WideAt.IsKeyLit (klS x) := keyS.key (key_some hx)
/-- How an element reads: its block. -/
def RQ : Value → Option (DataW Unit × List MemPlace)
  | .pointer none => some (.nil, [])
  | .pointer (some a) => if a.off = 0 ∧ a.spot = none then some (.lit (.int .i64 a.block), []) else none
  | _ => none
theorem RQ_ptr (b : Nat) : RQ (ptrV b) = some (.lit (.int .i64 b), []) := by simp [RQ, ptrV]
theorem RQ_nil : RQ (.pointer none) = some (.nil, []) := rfl
theorem RQ_nil_inv {v : Value} {ps : List MemPlace} (h : RQ v = some (.nil, ps)) : v = .pointer none := by
  unfold RQ at h
  split at h
  · rfl
  · split at h <;> simp at h
  · cases h
theorem RQ_ptr_inv {v : Value} {b : Nat} {ps : List MemPlace} (h : RQ v = some (.lit (.int .i64 b), ps)) : v = ptrV b := by
  unfold RQ at h
  split at h
  · simp at h
  · rename_i a
    split at h
    · rename_i hh
      obtain ⟨b', o, s⟩ := a
      simp at h hh
      obtain ⟨rfl, rfl⟩ := hh
      have : b' = b := by omega
      subst this
      rfl
    · cases h
  · cases h
theorem own_tight {w : World} {m n : Nat} {D : DataW Unit} (h : w.ownsMap Try.prog 9 RQ m n D) : w.ownsMap Try.prog 9 RQ m (size D) D := by
  obtain ⟨es, clock, hb, F, hs, rfl⟩ := h
  exact ⟨es, clock, hb, F, by simp [size, length_sorted], rfl⟩
theorem turned_kw {w w' : World} {m : Nat} {S : Nat → Prop} (h : w.mapTurned w' m) (hS : S m) : Kw S w w' :=
  (Kw.refl S w).grown h.grown (fun k hk => by cases hk; exact hS)
/-- Block m is the map of the directory l, file i in block bk i. -/
structure MapAt (w : World) (m : Nat) (l : Dir) (bk : Nat → Nat) (D : DataW Unit) : Prop where
  ok : ∀ p ∈ l, okN p.1
  nd : (l.map Prod.fst).Nodup
  own : w.ownsMap Try.prog 9 RQ m l.length D
  sz : size D = l.length
  at_ : ∀ p ∈ l, has D (klS p.1) = true ∧ D.atKey (klS p.1) .nil = .lit (.int .i64 (bk p.2))
  no : ∀ x, okN x → (∀ p ∈ l, p.1 ≠ x) → has D (klS x) = false
theorem MapAt.lt {w : World} {m : Nat} {l : Dir} {bk : Nat → Nat} {D : DataW Unit} (h : MapAt w m l bk D) : m < w.heap.size := h.own.lt
theorem MapAt.made (w : World) (bk : Nat → Nat) : MapAt (w.alloc (.map #[] 0)) w.heap.size [] bk (.map []) :=
  ⟨by simp, by simp, World.ownsMap_made w _ _ _, rfl, by simp, fun x _ _ => rfl⟩
theorem MapAt.kw {w w' : World} {S : Nat → Prop} {m : Nat} {l : Dir} {bk : Nat → Nat} {D : DataW Unit} (h : MapAt w m l bk D) (k : Kw S w w') (hm : ¬ S m) : MapAt w' m l bk D := by
  obtain ⟨h0, hn, ho, h1, h2, h3⟩ := h
  have hlt := ho.lt
  obtain ⟨es, clock, hb, F, hs, hD⟩ := ho
  exact ⟨h0, hn, ⟨es, clock, (k.block m hlt hm).trans hb, F, hs, hD⟩, h1, h2, h3⟩
theorem MapAt.perm {w : World} {m : Nat} {l l' : Dir} {bk : Nat → Nat} {D : DataW Unit} (h : MapAt w m l bk D) (hp : l'.Perm l) : MapAt w m l' bk D := by
  obtain ⟨h0, hn, ho, h1, h2, h3⟩ := h
  have hl := hp.length_eq
  exact ⟨fun b hb => h0 b (hp.mem_iff.1 hb), (hp.map Prod.fst).nodup_iff.2 hn, hl ▸ ho, by omega, fun b hb => h2 b (hp.mem_iff.1 hb), fun x hx hn => h3 x hx (fun b hb => hn b (hp.mem_iff.2 hb))⟩
theorem MapAt.fn {w : World} {m : Nat} {l : Dir} {bk bk' : Nat → Nat} {D : DataW Unit} (h : MapAt w m l bk D) (he : ∀ p ∈ l, bk' p.2 = bk p.2) : MapAt w m l bk' D :=
  ⟨h.ok, h.nd, h.own, h.sz, fun p hp => by rw [he p hp]; exact h.at_ p hp, h.no⟩
theorem look_some {l : Dir} {n : ByteArray} {f : Nat} (h : look l n = some f) : (n, f) ∈ l := by
  unfold look at h
  obtain ⟨p, hp, rfl⟩ := Option.map_eq_some_iff.1 h
  have h1 := List.find?_some hp
  have h2 := List.mem_of_find?_eq_some hp
  simp at h1
  subst h1
  exact h2
theorem look_none {l : Dir} {n : ByteArray} (h : look l n = none) : ∀ p ∈ l, p.1 ≠ n := by
  unfold look at h
  rw [Option.map_eq_none_iff, List.find?_eq_none] at h
  intro p hp
  simpa using h p hp
/-- A file's pointer, or nil. -/
def optV (bk : Nat → Nat) : Option Nat → Value
  | some i => ptrV (bk i)
  | none => .pointer none
/-- What stands at a name. -/
theorem MapAt.look {w : World} {m : Nat} {l : Dir} {bk : Nat → Nat} {D : DataW Unit} (h : MapAt w m l bk D) {x : ByteArray} (hx : okN x) :
    (Instr.lookup 57 (.map (some m)) (.string x) false).run Try.prog w = .ok (optV bk (look l x)) w := by
  obtain ⟨v, ps, hrun, hv⟩ := h.own.lookup keyS u57 (zero63 w) RQ_nil (key_some hx)
  cases hl : Ytjgiohlkpenipaa.look l x with
  | none =>
    rw [atKey_of_not_has (h.no x hx (look_none hl))] at hv
    rw [hrun, RQ_nil_inv hv]
    rfl
  | some f =>
    rw [(h.at_ _ (look_some hl)).2] at hv
    rw [hrun, RQ_ptr_inv hv]
    rfl
theorem MapAt.len {w : World} {m : Nat} {l : Dir} {bk : Nat → Nat} {D : DataW Unit} (h : MapAt w m l bk D) (ty : TypeId) : (Builtin.len_ #[57] ty #[.map (some m)]).run Try.prog w = .ok (.int .i64 l.length) w := by
  rw [h.own.len u57 ty, h.sz]
theorem mem_wo {l : Dir} {n : ByteArray} {p : ByteArray × Nat} : p ∈ wo l n ↔ p ∈ l ∧ p.1 ≠ n := by simp [wo]
theorem wo_sub (l : Dir) (n : ByteArray) : ((wo l n).map Prod.fst).Sublist (l.map Prod.fst) := (List.filter_sublist).map _
theorem ins_perm (n : ByteArray) (f : Nat) (l : Dir) : (ins n f l).Perm ((n, f) :: l) := by
  induction l with
  | nil => exact List.Perm.refl _
  | cons p l ih =>
    unfold ins
    split
    · exact List.Perm.refl _
    · exact (ih.cons p).trans (List.Perm.swap _ _ _)
theorem wo_none {l : Dir} {n : ByteArray} (h : look l n = none) : wo l n = l := by
  unfold wo
  rw [List.filter_eq_self]
  intro p hp
  simpa using look_none h p hp
theorem wo_len {l : Dir} {n : ByteArray} {f : Nat} (hnd : (l.map Prod.fst).Nodup) (h : (n, f) ∈ l) : (wo l n).length + 1 = l.length := by
  induction l with
  | nil => cases h
  | cons p l ih =>
    rw [List.map_cons, List.nodup_cons] at hnd
    rcases List.mem_cons.1 h with e | h2
    · subst e
      have : wo ((n, f) :: l) n = l := by
        unfold wo
        rw [List.filter_cons_of_neg (by simp), List.filter_eq_self]
        intro q hq
        have : q.1 ≠ n := fun e => hnd.1 (List.mem_map.2 ⟨q, hq, e⟩)
        simpa using this
      rw [this]
      rfl
    · have hne : p.1 ≠ n := fun e => hnd.1 (List.mem_map.2 ⟨_, h2, e.symm⟩)
      have : wo (p :: l) n = p :: wo l n := by
        unfold wo
        rw [List.filter_cons_of_pos (by simpa using hne)]
      rw [this]
      simp [ih hnd.2 h2]
theorem wo_le (l : Dir) (n : ByteArray) : (wo l n).length ≤ l.length := List.length_filter_le _ _
theorem wi_perm (l : Dir) (n : ByteArray) (f : Nat) : (wi l n f).Perm ((n, f) :: wo l n) := ins_perm n f _
theorem wi_len (l : Dir) (n : ByteArray) (f : Nat) : (wi l n f).length = (wo l n).length + 1 := (wi_perm l n f).length_eq
theorem MapAt.del {w : World} {m : Nat} {l : Dir} {bk : Nat → Nat} {D : DataW Unit} (h : MapAt w m l bk D) {n : ByteArray} (hn : okN n) (ty : TypeId) :
    ∃ w' D', (Builtin.delete_ #[57, 9] ty #[.map (some m), .string n]).run Try.prog w = .ok (.tuple #[]) w' ∧ MapAt w' m (wo l n) bk D' ∧ w.mapTurned w' m := by
  obtain ⟨w', hrun, ho', ht⟩ := h.own.drop keyS u57 (key_some hn) ty
  have hD := h.own.tidy keyS
  have hsz : size (D.del (klS n)) = (wo l n).length := by
    have h1 := size_del (k := klS n) hD
    rw [h.sz] at h1
    cases hl : Ytjgiohlkpenipaa.look l n with
    | none =>
      rw [h.no n hn (look_none hl)] at h1
      rw [wo_none hl]
      simpa using h1
    | some f =>
      have h2 := look_some hl
      have h3 := wo_len h.nd h2
      rw [(h.at_ _ h2).1] at h1
      simp at h1
      omega
  refine ⟨w', D.del (klS n), hrun, ⟨fun p hp => h.ok p (mem_wo.1 hp).1, h.nd.sublist (wo_sub l n), hsz ▸ own_tight ho', hsz, fun p hp => ?_, fun x hx hnx => ?_⟩, ht⟩
  · obtain ⟨h1, h2⟩ := mem_wo.1 hp
    have hne : klS p.1 ≠ klS n := fun e => h2 (kl_inj e)
    rw [has_del_other hne, atKey_del_other hne]
    exact h.at_ p h1
  · by_cases e : x = n
    · rw [e]
      exact has_del_same
    · rw [has_del_other (fun e' => e (kl_inj e'))]
      exact h.no x hx (fun p hp => fun e' => hnx p (mem_wo.2 ⟨hp, fun e2 => e (e' ▸ e2)⟩) e')
theorem MapAt.put {w : World} {m : Nat} {l : Dir} {bk : Nat → Nat} {D : DataW Unit} (h : MapAt w m l bk D) {n : ByteArray} (hn : okN n) (f : Nat) (hL : l.length < maxLen) :
    ∃ w' D', (Instr.mapUpdate 57 (.map (some m)) (.string n) (ptrV (bk f))).run Try.prog w = .ok () w' ∧ MapAt w' m (wi l n f) bk D' ∧ w.mapTurned w' m := by
  obtain ⟨w', hrun, ho', ht⟩ := h.own.store keyS u57 hL (key_some hn) (RQ_ptr (bk f))
  have hD := h.own.tidy keyS
  have hsz : size (D.put (klS n) (.lit (.int .i64 (bk f)))) = ((n, f) :: wo l n).length := by
    rw [size_put hD]
    cases hl : Ytjgiohlkpenipaa.look l n with
    | none =>
      rw [h.no n hn (look_none hl), wo_none hl, h.sz]
      simp
    | some g =>
      have h2 := look_some hl
      have h3 := wo_len h.nd h2
      rw [(h.at_ _ h2).1, h.sz]
      simp
      omega
  refine ⟨w', D.put (klS n) (.lit (.int .i64 (bk f))), hrun, MapAt.perm ⟨fun p hp => ?_, ?_, hsz ▸ own_tight ho', hsz, fun p hp => ?_, fun x hx hnx => ?_⟩ (wi_perm l n f), ht⟩
  · rcases List.mem_cons.1 hp with rfl | hp
    · exact hn
    · exact h.ok p (mem_wo.1 hp).1
  · rw [List.map_cons, List.nodup_cons]
    refine ⟨fun hm => ?_, h.nd.sublist (wo_sub l n)⟩
    obtain ⟨q, hq, e⟩ := List.mem_map.1 hm
    exact (mem_wo.1 hq).2 e
  · rcases List.mem_cons.1 hp with rfl | hp
    · exact ⟨has_put_same hD.isMap (kl_key hn) _, atKey_put_same hD.isMap (kl_key hn) _ _⟩
    · obtain ⟨h1, h2⟩ := mem_wo.1 hp
      have hne : klS p.1 ≠ klS n := fun e => h2 (kl_inj e)
      rw [has_put_other hne, atKey_put_other hne]
      exact h.at_ p h1
  · have e : x ≠ n := fun e => hnx (n, f) (List.mem_cons_self ..) e.symm
    rw [has_put_other (fun e' => e (kl_inj e'))]
    exact h.no x hx (fun p hp e' => hnx p (List.mem_cons_of_mem _ (mem_wo.2 ⟨hp, fun e2 => e (e' ▸ e2)⟩)) e')
end Go.Proofs.Ytjgiohlkpenipaa
namespace Go.Proofs.Ytjgiohlkpenipaa
open Go.RowKit Go.Maps
set_option linter.unusedVariables false
set_option linter.unusedSimpArgs false

/-- A file in memory. -/
def FileAt (w : World) (b : Nat) (f : Fl) : Prop := w.heap[b]? = some (Obj.cells #[.string f.data, .int .i64 f.sure] 66)
theorem FileAt.lt {w : World} {b : Nat} {f : Fl} (h : FileAt w b f) : b < w.heap.size := (Array.getElem?_eq_some_iff.1 h).1
theorem FileAt.kw {w w' : World} {S : Nat → Prop} {b : Nat} {f : Fl} (h : FileAt w b f) (k : Kw S w w') (hb : ¬ S b) : FileAt w' b f := (k.block b h.lt hb).trans h
theorem FileAt.cells {w : World} {b : Nat} {f : Fl} (h : FileAt w b f) : w.cell? ⟨b, 0, none⟩ = some (.string f.data) ∧ w.cell? ⟨b, 1, none⟩ = some (.int .i64 f.sure) := by
  have h' : w.heap[b]? = _ := h
  simp [World.cell?, h']
theorem FileAt.frozen {w : World} {b : Nat} {f : Fl} (h : FileAt w b f) (i : Nat) : w.frozen? ⟨b, i, none⟩ = false := by
  have h' : w.heap[b]? = _ := h
  simp [World.frozen?, h']
theorem set_heap {W : World} {B i : Nat} {v : Value} {cs : Array Value} {t : TypeId} {fz : Nat × Nat} (h : W.heap[B]? = some (Obj.cells cs t fz)) : (W.setCell ⟨B, i, none⟩ v).heap[B]? = some (Obj.cells (cs.setIfInBounds i v) t fz) := by
  have hl := (Array.getElem?_eq_some_iff.1 h).1
  have h2 := (Array.getElem?_eq_some_iff.1 h).2
  simp only [World.setCell]
  rw [Array.getElem?_eq_getElem (by simpa using hl), Array.getElem_modify_self, h2]
  rfl
theorem FileAt.setData {w : World} {b : Nat} {f : Fl} (h : FileAt w b f) (x : ByteArray) : FileAt (w.setCell ⟨b, 0, none⟩ (.string x)) b { f with data := x } := set_heap h
theorem FileAt.setSure {w : World} {b : Nat} {f : Fl} (h : FileAt w b f) (x : Nat) : FileAt (w.setCell ⟨b, 1, none⟩ (.int .i64 x)) b { f with sure := x } := set_heap h

/-- A change as a value. -/
def chP (bk : Nat → Nat) (c : Ch) : Value := if c.to = ByteArray.empty then .pointer none else ptrV (bk c.fi)
def chV (bk : Nat → Nat) (c : Ch) : Value := .agg #[.string c.frm, .string c.to, chP bk c]
def wcells (bk : Nat → Nat) (l : List Ch) : List Value := l.flatMap fun c => [.string c.frm, .string c.to, chP bk c]
theorem wcells_snoc (bk : Nat → Nat) (l : List Ch) (c : Ch) : wcells bk (l ++ [c]) = wcells bk l ++ [.string c.frm, .string c.to, chP bk c] := by simp [wcells]
theorem wcells_len (bk : Nat → Nat) (l : List Ch) : (wcells bk l).length = l.length * 3 := by
  induction l with
  | nil => rfl
  | cons c l ih =>
    have : wcells bk (c :: l) = [.string c.frm, .string c.to, chP bk c] ++ wcells bk l := rfl
    rw [this, List.length_append, ih, List.length_cons]
    simp
    omega
def zeroC : Ch := ⟨ByteArray.empty, ByteArray.empty, 0⟩
instance : Inhabited Ch := ⟨zeroC⟩
theorem wcells_at (bk : Nat → Nat) : ∀ (l : List Ch) (i : Nat), i < l.length → (wcells bk l)[i * 3]? = some (.string (l.getD i zeroC).frm) ∧ (wcells bk l)[i * 3 + 1]? = some (.string (l.getD i zeroC).to) ∧ (wcells bk l)[i * 3 + 2]? = some (chP bk (l.getD i zeroC))
  | [], i, h => absurd h (Nat.not_lt_zero _)
  | c :: l, 0, h => by simp [wcells]
  | c :: l, i + 1, h => by
    have e : wcells bk (c :: l) = .string c.frm :: .string c.to :: chP bk c :: wcells bk l := rfl
    have ih := wcells_at bk l i (by simpa using h)
    have e0 : (i + 1) * 3 = i * 3 + 3 := by omega
    rw [e, e0]
    simpa using ih

/-- Where a disk lies. -/
structure Lay where
  d : Nat
  md : Nat
  mq : Nat
  bk : Nat → Nat
  v : Value
/-- A file that a disk knows of. -/
def DS.has (s : DS) (i : Nat) : Prop := (∃ n, (n, i) ∈ s.dir) ∨ (∃ n, (n, i) ∈ s.kept) ∨ ∃ c ∈ s.waits, c.to ≠ ByteArray.empty ∧ c.fi = i
/-- The blocks of a disk. -/
def Foot (L : Lay) (s : DS) (b : Nat) : Prop := b = L.d ∨ b = L.md ∨ b = L.mq ∨ (∃ i, s.has i ∧ b = L.bk i) ∨ L.v.ownBlock = some b
def dcells (L : Lay) (s : DS) : Array Value := #[.int .i64 s.room, .int .i64 s.steps, .int .i64 s.fuse, .bool s.down, .map (some L.md), .map (some L.mq), L.v]
structure DAt (w : World) (L : Lay) (s : DS) : Prop where
  cells : w.heap[L.d]? = some (Obj.cells (dcells L s) 60)
  dirm : ∃ D, MapAt w L.md s.dir L.bk D
  keptm : ∃ D, MapAt w L.mq s.kept L.bk D
  row : w.ownsRow 0 68 3 L.v s.waits.length (wcells L.bk s.waits)
  file : ∀ i, s.has i → FileAt w (L.bk i) (s.file i) ∧ i < s.files.length
  inj : ∀ i j, s.has i → s.has j → L.bk i = L.bk j → i = j
  mdq : L.md ≠ L.mq
  okw : ∀ c ∈ s.waits, okN c.frm ∧ okN c.to

theorem own_kw {w w' : World} {S : Nat → Prop} {B n sz : Nat} {e : TypeId} {v : Value} {xs : List Value} (h : w.ownsRow B e sz v n xs) (k : Kw S w w') (hg : ∀ g, v.ownBlock = some g → ¬ S g) : w'.ownsRow B e sz v n xs := by
  refine ⟨h.1, ?_⟩
  rcases h.2 with h0 | ⟨g, c, cur, rfl, hb2, hgc, r⟩
  · exact .inl h0
  · exact .inr ⟨g, c, cur, rfl, hb2, (k.block g (Array.getElem?_eq_some_iff.1 hgc).1 (hg g rfl)).trans hgc, r⟩
theorem own_blk {w : World} {B n sz : Nat} {e : TypeId} {v : Value} {xs : List Value} (h : w.ownsRow B e sz v n xs) {g : Nat} (hg : v.ownBlock = some g) : B ≤ g ∧ ∃ cur, w.heap[g]? = some (Obj.cells cur e (0, 0)) := by
  rcases h.2 with ⟨rfl, _⟩ | ⟨g', c, cur, rfl, hb, hgc, _⟩
  · simp [Value.ownBlock] at hg
  · simp [Value.ownBlock] at hg
    subst hg
    exact ⟨hb, cur, hgc⟩
theorem own_lt {w : World} {B n sz : Nat} {e : TypeId} {v : Value} {xs : List Value} (h : w.ownsRow B e sz v n xs) {g : Nat} (hg : v.ownBlock = some g) : g < w.heap.size := by
  obtain ⟨_, cur, hc⟩ := own_blk h hg
  exact (Array.getElem?_eq_some_iff.1 hc).1

section
variable {w : World} {L : Lay} {s : DS}
theorem DAt.lt (h : DAt w L s) : L.d < w.heap.size := (Array.getElem?_eq_some_iff.1 h.cells).1
theorem DAt.foot_lt (h : DAt w L s) {b : Nat} (hb : Foot L s b) : b < w.heap.size := by
  rcases hb with rfl | rfl | rfl | ⟨i, hi, rfl⟩ | hg
  · exact h.lt
  · exact h.dirm.choose_spec.lt
  · exact h.keptm.choose_spec.lt
  · exact (h.file i hi).1.lt
  · exact own_lt h.row hg
theorem DAt.kw {w' : World} {S : Nat → Prop} (h : DAt w L s) (k : Kw S w w') (hS : ∀ b, Foot L s b → ¬ S b) : DAt w' L s where
  cells := (k.block L.d h.lt (hS _ (.inl rfl))).trans h.cells
  dirm := by
    obtain ⟨D, hD⟩ := h.dirm
    exact ⟨D, hD.kw k (hS _ (.inr (.inl rfl)))⟩
  keptm := by
    obtain ⟨D, hD⟩ := h.keptm
    exact ⟨D, hD.kw k (hS _ (.inr (.inr (.inl rfl))))⟩
  row := own_kw h.row k (fun g hg => hS g (.inr (.inr (.inr (.inr hg)))))
  file := fun i hi => ⟨(h.file i hi).1.kw k (hS _ (.inr (.inr (.inr (.inl ⟨i, hi, rfl⟩))))), (h.file i hi).2⟩
  inj := h.inj
  mdq := h.mdq
  okw := h.okw
theorem DAt.below {w' : World} (h : DAt w L s) (k : Below w.heap.size w w') : DAt w' L s := h.kw (S := fun _ => False) (Kw.ofBelow k) (fun _ _ h => h)
theorem MapAt.heap {m : Nat} {l : Dir} {bk : Nat → Nat} {D : DataW Unit} (h : MapAt w m l bk D) : ∃ es clock, w.heap[m]? = some (Obj.map es clock) := by
  obtain ⟨es, clock, hb, _⟩ := h.own
  exact ⟨es, clock, hb⟩
/-- A disk's blocks lie apart. -/
theorem DAt.apart (h : DAt w L s) : L.d ≠ L.md ∧ L.d ≠ L.mq ∧ (∀ i, s.has i → L.bk i ≠ L.d ∧ L.bk i ≠ L.md ∧ L.bk i ≠ L.mq) ∧ ∀ g, L.v.ownBlock = some g → g ≠ L.d ∧ g ≠ L.md ∧ g ≠ L.mq ∧ ∀ i, s.has i → g ≠ L.bk i := by
  obtain ⟨D, hD⟩ := h.dirm
  obtain ⟨D', hD'⟩ := h.keptm
  obtain ⟨es, cl, h1⟩ := hD.heap
  obtain ⟨es', cl', h2⟩ := hD'.heap
  have h0 := h.cells
  refine ⟨fun e => ?_, fun e => ?_, fun i hi => ?_, fun g hg => ?_⟩
  · rw [e, h1] at h0
    cases h0
  · rw [e, h2] at h0
    cases h0
  · have h3 : w.heap[L.bk i]? = _ := (h.file i hi).1
    refine ⟨fun e => ?_, fun e => ?_, fun e => ?_⟩
    · rw [e, h0] at h3
      simp [dcells] at h3
    · rw [e, h1] at h3
      cases h3
    · rw [e, h2] at h3
      cases h3
  · obtain ⟨_, cur, h3⟩ := own_blk h.row hg
    refine ⟨fun e => ?_, fun e => ?_, fun e => ?_, fun i hi e => ?_⟩
    · rw [e, h0] at h3
      simp at h3
    · rw [e, h1] at h3
      cases h3
    · rw [e, h2] at h3
      cases h3
    · have h4 : w.heap[L.bk i]? = _ := (h.file i hi).1
      rw [e, h4] at h3
      simp at h3
theorem DAt.c (h : DAt w L s) : w.cell? ⟨L.d, 0, none⟩ = some (.int .i64 s.room) ∧ w.cell? ⟨L.d, 1, none⟩ = some (.int .i64 s.steps) ∧ w.cell? ⟨L.d, 2, none⟩ = some (.int .i64 s.fuse) ∧ w.cell? ⟨L.d, 3, none⟩ = some (.bool s.down) ∧
    w.cell? ⟨L.d, 4, none⟩ = some (.map (some L.md)) ∧ w.cell? ⟨L.d, 5, none⟩ = some (.map (some L.mq)) ∧ w.cell? ⟨L.d, 6, none⟩ = some L.v := by
  have h' : w.heap[L.d]? = _ := h.cells
  simp [World.cell?, h', dcells]
theorem DAt.fz (h : DAt w L s) (i : Nat) : w.frozen? ⟨L.d, i, none⟩ = false := by
  have h' : w.heap[L.d]? = _ := h.cells
  simp [World.frozen?, h']
end
end Go.Proofs.Ytjgiohlkpenipaa
namespace Go.Proofs.Ytjgiohlkpenipaa
open Go.RowKit Go.Maps
set_option linter.unusedVariables false
set_option linter.unusedSimpArgs false

theorem eqm_none (w : World) : (binOp .eql 57 (.map none) (.map none)).run Try.prog w = .ok (.bool true) w := by kernel_rfl
theorem eqm_some (m : Nat) (w : World) : (binOp .eql 57 (.map (some m)) (.map none)).run Try.prog w = .ok (.bool false) w := by kernel_rfl
def dP (L : Lay) : Value := .pointer (some ⟨L.d, 0, none⟩)
set_option maxRecDepth 100000 in
theorem ready_any (L : Lay) (s : DS) (w : World) (h : DAt w L s) : Calls Try.prog 42 #[dP L] w fun e w' => e = .returned (.int .i64 (if s.down then 9 else 0)) ∧ w = w' := by
  unfold dP
  obtain ⟨_, _, _, h3, h4, _⟩ := h.c
  have hl := h.lt
  have heq := eqm_some L.md w
  clear h
  generalize s.down = b at *
  go_enter Try.func42, Try.ntmps42
  cases b with
  | true =>
    go_wp2_with (fail)
    go_ret
    exact ⟨rfl, rfl⟩
  | false =>
    go_wp2_with (fail)
    go_ret
    exact ⟨rfl, rfl⟩
/-- Letters of names. -/
def okc (c : Nat) : Prop := (97 ≤ c ∧ c ≤ 122) ∨ (48 ≤ c ∧ c ≤ 57) ∨ c = 45 ∨ c = 46
instance (c : Nat) : Decidable (okc c) := by unfold okc; infer_instance
def bAt (n : ByteArray) (i : Nat) : Nat := (n.data.getD i 0).toNat
/-- May a text be a name? -/
def named (n : ByteArray) : Prop := 1 ≤ n.size ∧ n.size ≤ 32 ∧ ∀ i, i < n.size → okc (bAt n i)
instance (n : ByteArray) : Decidable (named n) := by unfold named; infer_instance
set_option maxRecDepth 100000 in
set_option maxHeartbeats 4000000 in
theorem named_any (n : ByteArray) (w : World) : Calls Try.prog 29 #[.string n] w fun e w' => e = .returned (.bool (decide (named n))) ∧ w = w' := by
  obtain ⟨m, hm⟩ : ∃ m, n.size = m := ⟨_, rfl⟩
  go_enter Try.func29, Try.ntmps29
  by_cases h1 : m < 1
  · have h1i : (m : Int) < 1 := by omega
    have hN : decide (named n) = false := decide_eq_false (fun h => by have := h.1; omega)
    rw [hN]
    go_wp2_with (fail)
    go_ret
    exact ⟨rfl, rfl⟩
  · have h1i : (1 : Int) ≤ (m : Int) := by omega
    by_cases h2 : 32 < m
    · have h2i : (32 : Int) < (m : Int) := by omega
      have hN : decide (named n) = false := decide_eq_false (fun h => by have := h.2.1; omega)
      rw [hN]
      go_wp2_with (fail)
      go_ret
      exact ⟨rfl, rfl⟩
    · have h2i : (m : Int) ≤ 32 := by omega
      go_wp2_with (fail)
      go_loopw [15] (fun vi wr => ∃ i : Nat, i ≤ m ∧ vi = .int .i64 i ∧ (∀ j, j < i → okc (bAt n j)) ∧ wr = w) (fun i _ => m - (intOf i).toNat)
      case atStart => exact ⟨0, Nat.zero_le _, rfl, fun j hj => by omega, rfl⟩
      case round =>
        obtain ⟨i, him, rfl, hok, rfl⟩ := hrel
        by_cases hi : i < m
        · have hi0 : (0 : Int) ≤ (i : Int) := by omega
          have hi1 : (i : Int) < (m : Int) := by omega
          have hbA : bAt n i = n[i].toNat := by
            unfold bAt
            rw [Array.getD_eq_getD_getElem?, Array.getElem?_eq_getElem (by simpa using (show i < n.size by omega))]
            rfl
          go_wp2_with (fail)
          all_goals (
            generalize n[i].toNat = c at *
            first
            | (refine ⟨⟨i + 1, by omega, by first | rfl | (push_cast; rfl), fun j hj => ?_, trivial⟩, by simp [intOf]; omega⟩
               rcases Nat.lt_or_ge j i with h | h
               · exact hok j h
               · obtain rfl : j = i := by omega
                 rw [hbA]
                 unfold okc
                 simp at *
                 omega)
            | (have hN : decide (named n) = false := decide_eq_false (fun h => by
                 have h := h.2.2 i (by omega)
                 rw [hbA] at h
                 unfold okc at h
                 simp at *
                 omega)
               rw [hN]
               go_ret
               exact ⟨rfl, rfl⟩))
        · have hi1 : ¬ (i : Int) < (m : Int) := by omega
          have hN : decide (named n) = true := decide_eq_true ⟨by omega, by omega, fun j hj => hok j (by omega)⟩
          go_wp2_with (fail)
          try rw [hN]
          go_ret
          exact ⟨rfl, rfl⟩
end Go.Proofs.Ytjgiohlkpenipaa
