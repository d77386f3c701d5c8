/- A disk in memory. Conditions: as each theorem states them. -/
import Derived.Test.YtjgiohlkpenipaaA0
namespace Go.Proofs.Ytjgiohlkpenipaa
open Go.RowKit Go.Maps
set_option linter.unusedVariables false
set_option linter.unusedSimpArgs false

/-- A file in memory. -/
def FileAt (w : World) (b : Nat) (f : Fl) : Prop := w.heap[b]? = some (Obj.cells #[.string f.data, .int .i64 f.sure] 66)
theorem FileAt.lt {w : World} {b : Nat} {f : Fl} (h : FileAt w b f) : b < w.heap.size := (Array.getElem?_eq_some_iff.1 h).1
theorem FileAt.kw {w w' : World} {S : Nat → Prop} {b : Nat} {f : Fl} (h : FileAt w b f) (k : Kw S w w') (hb : ¬ S b) : FileAt w' b f := (k.block b h.lt hb).trans h
theorem FileAt.cells {w : World} {b : Nat} {f : Fl} (h : FileAt w b f) : w.cell? ⟨b, 0, none⟩ = some (.string f.data) ∧ w.cell? ⟨b, 1, none⟩ = some (.int .i64 f.sure) := by
  have h' : w.heap[b]? = _ := h
  simp [World.cell?, h']
theorem FileAt.frozen {w : World} {b : Nat} {f : Fl} (h : FileAt w b f) (i : Nat) : w.frozen? ⟨b, i, none⟩ = false := by
  have h' : w.heap[b]? = _ := h
  simp [World.frozen?, h']
theorem set_heap {W : World} {B i : Nat} {v : Value} {cs : Array Value} {t : TypeId} {fz : Nat × Nat} (h : W.heap[B]? = some (Obj.cells cs t fz)) : (W.setCell ⟨B, i, none⟩ v).heap[B]? = some (Obj.cells (cs.setIfInBounds i v) t fz) := by
  have hl := (Array.getElem?_eq_some_iff.1 h).1
  have h2 := (Array.getElem?_eq_some_iff.1 h).2
  simp only [World.setCell]
  rw [Array.getElem?_eq_getElem (by simpa using hl), Array.getElem_modify_self, h2]
  rfl
theorem FileAt.setData {w : World} {b : Nat} {f : Fl} (h : FileAt w b f) (x : ByteArray) : FileAt (w.setCell ⟨b, 0, none⟩ (.string x)) b { f with data := x } := set_heap h
theorem FileAt.setSure {w : World} {b : Nat} {f : Fl} (h : FileAt w b f) (x : Nat) : FileAt (w.setCell ⟨b, 1, none⟩ (.int .i64 x)) b { f with sure := x } := set_heap h

/-- A change as a value. -/
def chP (bk : Nat → Nat) (c : Ch) : Value := if c.to = ByteArray.empty then .pointer none else ptrV (bk c.fi)
def chV (bk : Nat → Nat) (c : Ch) : Value := .agg #[.string c.frm, .string c.to, chP bk c]
def wcells (bk : Nat → Nat) (l : List Ch) : List Value := l.flatMap fun c => [.string c.frm, .string c.to, chP bk c]
theorem wcells_snoc (bk : Nat → Nat) (l : List Ch) (c : Ch) : wcells bk (l ++ [c]) = wcells bk l ++ [.string c.frm, .string c.to, chP bk c] := by simp [wcells]
theorem wcells_len (bk : Nat → Nat) (l : List Ch) : (wcells bk l).length = l.length * 3 := by
  induction l with
  | nil => rfl
  | cons c l ih =>
    have : wcells bk (c :: l) = [.string c.frm, .string c.to, chP bk c] ++ wcells bk l := rfl
    rw [this, List.length_append, ih, List.length_cons]
    simp
    omega
def zeroC : Ch := ⟨ByteArray.empty, ByteArray.empty, 0⟩
instance : Inhabited Ch := ⟨zeroC⟩
theorem wcells_at (bk : Nat → Nat) : ∀ (l : List Ch) (i : Nat), i < l.length → (wcells bk l)[i * 3]? = some (.string (l.getD i zeroC).frm) ∧ (wcells bk l)[i * 3 + 1]? = some (.string (l.getD i zeroC).to) ∧ (wcells bk l)[i * 3 + 2]? = some (chP bk (l.getD i zeroC))
  | [], i, h => absurd h (Nat.not_lt_zero _)
  | c :: l, 0, h => by simp [wcells]
  | c :: l, i + 1, h => by
    have e : wcells bk (c :: l) = .string c.frm :: .string c.to :: chP bk c :: wcells bk l := rfl
    have ih := wcells_at bk l i (by simpa using h)
    have e0 : (i + 1) * 3 = i * 3 + 3 := by omega
    rw [e, e0]
    simpa using ih

/-- Where a disk lies. -/
structure Lay where
  d : Nat
  md : Nat
  mq : Nat
  bk : Nat → Nat
  v : Value
/-- A file that a disk knows of. -/
def DS.has (s : DS) (i : Nat) : Prop := (∃ n, (n, i) ∈ s.dir) ∨ (∃ n, (n, i) ∈ s.kept) ∨ ∃ c ∈ s.waits, c.to ≠ ByteArray.empty ∧ c.fi = i
/-- The blocks of a disk. -/
def Foot (L : Lay) (s : DS) (b : Nat) : Prop := b = L.d ∨ b = L.md ∨ b = L.mq ∨ (∃ i, s.has i ∧ b = L.bk i) ∨ L.v.ownBlock = some b
def dcells (L : Lay) (s : DS) : Array Value := #[.int .i64 s.room, .int .i64 s.steps, .int .i64 s.fuse, .bool s.down, .map (some L.md), .map (some L.mq), L.v]
structure DAt (w : World) (L : Lay) (s : DS) : Prop where
  cells : w.heap[L.d]? = some (Obj.cells (dcells L s) 60)
  dirm : ∃ D, MapAt w L.md s.dir L.bk D
  keptm : ∃ D, MapAt w L.mq s.kept L.bk D
  row : w.ownsRow 0 68 3 L.v s.waits.length (wcells L.bk s.waits)
  file : ∀ i, s.has i → FileAt w (L.bk i) (s.file i) ∧ i < s.files.length
  inj : ∀ i j, s.has i → s.has j → L.bk i = L.bk j → i = j
  mdq : L.md ≠ L.mq
  okw : ∀ c ∈ s.waits, okN c.frm ∧ okN c.to

theorem own_kw {w w' : World} {S : Nat → Prop} {B n sz : Nat} {e : TypeId} {v : Value} {xs : List Value} (h : w.ownsRow B e sz v n xs) (k : Kw S w w') (hg : ∀ g, v.ownBlock = some g → ¬ S g) : w'.ownsRow B e sz v n xs := by
  refine ⟨h.1, ?_⟩
  rcases h.2 with h0 | ⟨g, c, cur, rfl, hb2, hgc, r⟩
  · exact .inl h0
  · exact .inr ⟨g, c, cur, rfl, hb2, (k.block g (Array.getElem?_eq_some_iff.1 hgc).1 (hg g rfl)).trans hgc, r⟩
theorem own_blk {w : World} {B n sz : Nat} {e : TypeId} {v : Value} {xs : List Value} (h : w.ownsRow B e sz v n xs) {g : Nat} (hg : v.ownBlock = some g) : B ≤ g ∧ ∃ cur, w.heap[g]? = some (Obj.cells cur e (0, 0)) := by
  rcases h.2 with ⟨rfl, _⟩ | ⟨g', c, cur, rfl, hb, hgc, _⟩
  · simp [Value.ownBlock] at hg
  · simp [Value.ownBlock] at hg
    subst hg
    exact ⟨hb, cur, hgc⟩
theorem own_lt {w : World} {B n sz : Nat} {e : TypeId} {v : Value} {xs : List Value} (h : w.ownsRow B e sz v n xs) {g : Nat} (hg : v.ownBlock = some g) : g < w.heap.size := by
  obtain ⟨_, cur, hc⟩ := own_blk h hg
  exact (Array.getElem?_eq_some_iff.1 hc).1

section
variable {w : World} {L : Lay} {s : DS}
theorem DAt.lt (h : DAt w L s) : L.d < w.heap.size := (Array.getElem?_eq_some_iff.1 h.cells).1
theorem DAt.foot_lt (h : DAt w L s) {b : Nat} (hb : Foot L s b) : b < w.heap.size := by
  rcases hb with rfl | rfl | rfl | ⟨i, hi, rfl⟩ | hg
  · exact h.lt
  · exact h.dirm.choose_spec.lt
  · exact h.keptm.choose_spec.lt
  · exact (h.file i hi).1.lt
  · exact own_lt h.row hg
theorem DAt.kw {w' : World} {S : Nat → Prop} (h : DAt w L s) (k : Kw S w w') (hS : ∀ b, Foot L s b → ¬ S b) : DAt w' L s where
  cells := (k.block L.d h.lt (hS _ (.inl rfl))).trans h.cells
  dirm := by
    obtain ⟨D, hD⟩ := h.dirm
    exact ⟨D, hD.kw k (hS _ (.inr (.inl rfl)))⟩
  keptm := by
    obtain ⟨D, hD⟩ := h.keptm
    exact ⟨D, hD.kw k (hS _ (.inr (.inr (.inl rfl))))⟩
  row := own_kw h.row k (fun g hg => hS g (.inr (.inr (.inr (.inr hg)))))
  file := fun i hi => ⟨(h.file i hi).1.kw k (hS _ (.inr (.inr (.inr (.inl ⟨i, hi, rfl⟩))))), (h.file i hi).2⟩
  inj := h.inj
  mdq := h.mdq
  okw := h.okw
theorem DAt.below {w' : World} (h : DAt w L s) (k : Below w.heap.size w w') : DAt w' L s := h.kw (S := fun _ => False) (Kw.ofBelow k) (fun _ _ h => h)
theorem MapAt.heap {m : Nat} {l : Dir} {bk : Nat → Nat} {D : DataW Unit} (h : MapAt w m l bk D) : ∃ es clock, w.heap[m]? = some (Obj.map es clock) := by
  obtain ⟨es, clock, hb, _⟩ := h.own
  exact ⟨es, clock, hb⟩
/-- A disk's blocks lie apart. -/
theorem DAt.apart (h : DAt w L s) : L.d ≠ L.md ∧ L.d ≠ L.mq ∧ (∀ i, s.has i → L.bk i ≠ L.d ∧ L.bk i ≠ L.md ∧ L.bk i ≠ L.mq) ∧ ∀ g, L.v.ownBlock = some g → g ≠ L.d ∧ g ≠ L.md ∧ g ≠ L.mq ∧ ∀ i, s.has i → g ≠ L.bk i := by
  obtain ⟨D, hD⟩ := h.dirm
  obtain ⟨D', hD'⟩ := h.keptm
  obtain ⟨es, cl, h1⟩ := hD.heap
  obtain ⟨es', cl', h2⟩ := hD'.heap
  have h0 := h.cells
  refine ⟨fun e => ?_, fun e => ?_, fun i hi => ?_, fun g hg => ?_⟩
  · rw [e, h1] at h0
    cases h0
  · rw [e, h2] at h0
    cases h0
  · have h3 : w.heap[L.bk i]? = _ := (h.file i hi).1
    refine ⟨fun e => ?_, fun e => ?_, fun e => ?_⟩
    · rw [e, h0] at h3
      simp [dcells] at h3
    · rw [e, h1] at h3
      cases h3
    · rw [e, h2] at h3
      cases h3
  · obtain ⟨_, cur, h3⟩ := own_blk h.row hg
    refine ⟨fun e => ?_, fun e => ?_, fun e => ?_, fun i hi e => ?_⟩
    · rw [e, h0] at h3
      simp at h3
    · rw [e, h1] at h3
      cases h3
    · rw [e, h2] at h3
      cases h3
    · have h4 : w.heap[L.bk i]? = _ := (h.file i hi).1
      rw [e, h4] at h3
      simp at h3
theorem DAt.c (h : DAt w L s) : w.cell? ⟨L.d, 0, none⟩ = some (.int .i64 s.room) ∧ w.cell? ⟨L.d, 1, none⟩ = some (.int .i64 s.steps) ∧ w.cell? ⟨L.d, 2, none⟩ = some (.int .i64 s.fuse) ∧ w.cell? ⟨L.d, 3, none⟩ = some (.bool s.down) ∧
    w.cell? ⟨L.d, 4, none⟩ = some (.map (some L.md)) ∧ w.cell? ⟨L.d, 5, none⟩ = some (.map (some L.mq)) ∧ w.cell? ⟨L.d, 6, none⟩ = some L.v := by
  have h' : w.heap[L.d]? = _ := h.cells
  simp [World.cell?, h', dcells]
theorem DAt.fz (h : DAt w L s) (i : Nat) : w.frozen? ⟨L.d, i, none⟩ = false := by
  have h' : w.heap[L.d]? = _ := h.cells
  simp [World.frozen?, h']
end
end Go.Proofs.Ytjgiohlkpenipaa
