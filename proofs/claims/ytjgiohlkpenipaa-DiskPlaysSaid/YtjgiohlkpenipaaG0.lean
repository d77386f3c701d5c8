/- A map from pointers to pointers; contract of Copy's twin. Conditions: as each theorem states them. -/
import Derived.Test.YtjgiohlkpenipaaF0
import Derived.LaidEql
namespace Go.Proofs.Ytjgiohlkpenipaa
open Go.RowKit Go.Maps
set_option linter.unusedVariables false
set_option linter.unusedSimpArgs false

theorem u63 : Try.prog.underlying 63 = some (.pointer 66) := by kernel_rfl
theorem u81 : Try.prog.underlying 81 = some (.map 63 63) := by kernel_rfl
theorem i66 : ∃ j, Try.prog.info? 66 = some j ∧ j.size ≠ 0 := by
  have h : (Try.prog.info? 66).map (fun i => i.size) = some 2 := by kernel_rfl
  obtain ⟨j, hj, he⟩ := Option.map_eq_some_iff.1 h
  exact ⟨j, hj, by omega⟩
theorem eq63_same (w : World) (b : Nat) : (Go.Op.equal 63 (ptrV b) (ptrV b)).run Try.prog w = .ok true w := by
  obtain ⟨j, hj, _⟩ := i66
  have h : ∀ d : Nat, (Go.Op.equalIn (d + 1) 63 (ptrV b) (ptrV b)).run Try.prog w = .ok true w := fun d => by
    unfold ptrV
    simp [Go.Op.equalIn, run_underlying u63, sizeOf, typeInfo, hj, run_sameAddr_same]
  simp [Go.Op.equal, Go.Op.maxDepth, h 9999]
theorem eq63_other {w : World} {a b : Nat} {fa fb : Fl} (hne : a ≠ b) (ha : FileAt w a fa) (hb : FileAt w b fb) : (Go.Op.equal 63 (ptrV a) (ptrV b)).run Try.prog w = .ok false w := by
  obtain ⟨j, hj, hs⟩ := i66
  have hne' : (⟨a, 0, none⟩ : Addr) ≠ ⟨b, 0, none⟩ := by simp [hne]
  have h : ∀ d : Nat, (Go.Op.equalIn (d + 1) 63 (ptrV a) (ptrV b)).run Try.prog w = .ok false w := fun d => by
    unfold ptrV
    simp [Go.Op.equalIn, run_underlying u63, sizeOf, typeInfo, hj, hs, run_sameAddr_other w hne' ha hb]
  simp [Go.Op.equal, Go.Op.maxDepth, h 9999]
theorem eq63_nil (w : World) (b : Nat) : (Go.Op.equal 63 (.pointer none) (ptrV b)).run Try.prog w = .ok false w := by
  have h : ∀ d : Nat, (Go.Op.equalIn (d + 1) 63 (.pointer none) (ptrV b)).run Try.prog w = .ok false w := fun d => by
    unfold ptrV
    simp [Go.Op.equalIn, run_underlying u63]
  simp [Go.Op.equal, Go.Op.maxDepth, h 9999]
/-- What stands at a block. -/
def twl (tw : List (Nat × Nat)) (a : Nat) : Option Nat := (tw.find? (fun p => p.1 == a)).map (·.2)
def optP : Option Nat → Value
  | some b => ptrV b
  | none => .pointer none
/-- Block m is a map from old files' blocks to new ones'. -/
def TwAt (w : World) (m : Nat) (tw : List (Nat × Nat)) : Prop := ∃ es clock, w.heap[m]? = some (Obj.map es clock) ∧ es.toList.map (fun e => (e.key, e.val)) = tw.map (fun p => (ptrV p.1, ptrV p.2))
theorem TwAt.lt {w : World} {m : Nat} {tw : List (Nat × Nat)} (h : TwAt w m tw) : m < w.heap.size := by
  obtain ⟨es, clock, h, _⟩ := h
  exact (Array.getElem?_eq_some_iff.1 h).1
theorem TwAt.kw {w w' : World} {S : Nat → Prop} {m : Nat} {tw : List (Nat × Nat)} (h : TwAt w m tw) (k : Kw S w w') (hm : ¬ S m) : TwAt w' m tw := by
  have hl := h.lt
  obtain ⟨es, clock, h, h2⟩ := h
  exact ⟨es, clock, (k.block m hl hm).trans h, h2⟩
theorem TwAt.below {w w' : World} {m : Nat} {tw : List (Nat × Nat)} (h : TwAt w m tw) (k : Below w.heap.size w w') : TwAt w' m tw := h.kw (Kw.ofBelow (S := fun _ => False) k) (fun h => h)
theorem TwAt.new (w : World) : TwAt (w.alloc (.map #[] 0)) w.heap.size [] := ⟨#[], 0, (MapKept.heap_alloc w _).1, rfl⟩
theorem ask_run {w : World} {a : Nat} {fa : Fl} (ha : FileAt w a fa) : ∀ (tw : List (Nat × Nat)) (es : List MapEntry) (i : Nat), es.map (fun e => (e.key, e.val)) = tw.map (fun p => (ptrV p.1, ptrV p.2)) → (∀ p ∈ tw, ∃ f, FileAt w p.1 f) →
    (twl tw a = none → (Instr.findAsking 63 (ptrV a) es i).run Try.prog w = .ok none w) ∧ ∀ b, twl tw a = some b → ∃ j, (Instr.findAsking 63 (ptrV a) es i).run Try.prog w = .ok (some (j, ptrV b)) w
  | [], [], i, _, _ => ⟨fun _ => by simp [Instr.findAsking], fun b h => by simp [twl] at h⟩
  | [], e :: es, i, h, _ => by simp at h
  | p :: tw, [], i, h, _ => by simp at h
  | (x, y) :: tw, e :: es, i, h, hf => by
    simp only [List.map_cons, List.cons.injEq, Prod.mk.injEq] at h
    obtain ⟨⟨h1, h2⟩, h3⟩ := h
    have ih := ask_run ha tw es (i + 1) h3 (fun p hp => hf p (List.mem_cons_of_mem _ hp))
    obtain ⟨fx, hx⟩ := hf (x, y) (List.mem_cons_self ..)
    by_cases he : x = a
    · subst he
      refine ⟨fun h => ?_, fun b h => ⟨i, ?_⟩⟩
      · simp [twl] at h
      · have hb : y = b := by simpa [twl] using h
        subst hb
        simp [Instr.findAsking, h1, h2, eq63_same, Result.andThen]
    · have e1 : twl ((x, y) :: tw) a = twl tw a := by
        unfold twl
        rw [List.find?_cons_of_neg (by simpa using he)]
      have e2 : (Instr.findAsking 63 (ptrV a) (e :: es) i).run Try.prog w = (Instr.findAsking 63 (ptrV a) es (i + 1)).run Try.prog w := by
        simp [Instr.findAsking, h1, eq63_other (fun e => he e.symm) ha hx, Result.andThen]
      rw [e1, e2]
      exact ih
theorem ask_nil {w : World} : ∀ (tw : List (Nat × Nat)) (es : List MapEntry) (i : Nat), es.map (fun e => (e.key, e.val)) = tw.map (fun p => (ptrV p.1, ptrV p.2)) → (Instr.findAsking 63 (.pointer none) es i).run Try.prog w = .ok none w
  | [], [], i, _ => by simp [Instr.findAsking]
  | [], e :: es, i, h => by simp at h
  | p :: tw, [], i, h => by simp at h
  | (x, y) :: tw, e :: es, i, h => by
    simp only [List.map_cons, List.cons.injEq, Prod.mk.injEq] at h
    obtain ⟨⟨h1, h2⟩, h3⟩ := h
    simp [Instr.findAsking, h1, eq63_nil, Result.andThen, ask_nil tw es (i + 1) h3]
theorem find_ask (w : World) (v : Value) (hv : v = .pointer none ∨ ∃ a, v = ptrV a) (es : List MapEntry) (he : ∀ e ∈ es, ∃ a, e.key = ptrV a) : (Instr.findKey 63 v es).run Try.prog w = (Instr.findAsking 63 v es).run Try.prog w := by
  cases es with
  | nil => simp [Instr.findKey, run_underlying u63, Instr.findNow, Instr.findAsking, Result.andThen]
  | cons e es =>
    have hn : Instr.findNow (.pointer 66) v (e :: es) 0 = none := by
      unfold Instr.findNow Instr.sameNow
      rcases hv with rfl | ⟨a, rfl⟩ <;> rfl
    simp [Instr.findKey, run_underlying u63, hn, Result.andThen]
theorem check63 (w : World) (em : Bool) (v : Value) : (Instr.checkKey em 10000 63 v).run Try.prog w = .ok () w := by
  unfold Instr.checkKey
  simp [run_underlying u63, Result.andThen]
theorem keys_ptr {tw : List (Nat × Nat)} {es : List MapEntry} (h : es.map (fun e => (e.key, e.val)) = tw.map (fun p => (ptrV p.1, ptrV p.2))) : ∀ e ∈ es, ∃ a, e.key = ptrV a := fun e he => by
  have : (e.key, e.val) ∈ tw.map (fun p => (ptrV p.1, ptrV p.2)) := h ▸ List.mem_map.2 ⟨e, he, rfl⟩
  obtain ⟨p, _, hp⟩ := List.mem_map.1 this
  exact ⟨p.1, (Prod.mk.inj hp).1.symm⟩
theorem TwAt.look {w : World} {m : Nat} {tw : List (Nat × Nat)} (h : TwAt w m tw) (hf : ∀ p ∈ tw, ∃ f, FileAt w p.1 f) {a : Nat} {fa : Fl} (ha : FileAt w a fa) :
    (Instr.lookup 81 (.map (some m)) (ptrV a) false).run Try.prog w = .ok (optP (twl tw a)) w := by
  obtain ⟨es, clock, hb, he⟩ := h
  obtain ⟨h1, h2⟩ := ask_run ha tw es.toList 0 he hf
  have hfk := find_ask w (ptrV a) (.inr ⟨a, rfl⟩) es.toList (keys_ptr he)
  cases ht : twl tw a with
  | none =>
    have h1 := h1 ht
    simp [Instr.lookup, run_underlying u81, MapKept.run_getObj_map hb, check63, hfk, h1, zero63, Result.andThen, optP]
  | some b =>
    obtain ⟨j, h2⟩ := h2 b ht
    simp [Instr.lookup, run_underlying u81, MapKept.run_getObj_map hb, check63, hfk, h2, Result.andThen, optP]
theorem TwAt.lookNil {w : World} {m : Nat} {tw : List (Nat × Nat)} (h : TwAt w m tw) : (Instr.lookup 81 (.map (some m)) (.pointer none) false).run Try.prog w = .ok (.pointer none) w := by
  obtain ⟨es, clock, hb, he⟩ := h
  have hfk := find_ask w (.pointer none) (.inl rfl) es.toList (keys_ptr he)
  have h1 := ask_nil (w := w) tw es.toList 0 he
  simp [Instr.lookup, run_underlying u81, MapKept.run_getObj_map hb, check63, hfk, h1, zero63, Result.andThen]
theorem TwAt.put {w : World} {m : Nat} {tw : List (Nat × Nat)} (h : TwAt w m tw) (hf : ∀ p ∈ tw, ∃ f, FileAt w p.1 f) {a : Nat} {fa : Fl} (ha : FileAt w a fa) (hn : twl tw a = none) (b : Nat) :
    ∃ w', (Instr.mapUpdate 81 (.map (some m)) (ptrV a) (ptrV b)).run Try.prog w = .ok () w' ∧ TwAt w' m (tw ++ [(a, b)]) ∧ Kw (fun x => x = m) w w' ∧ w'.heap.size = w.heap.size := by
  obtain ⟨es, clock, hb, he⟩ := h
  have hl := (Array.getElem?_eq_some_iff.1 hb).1
  have h1 := (ask_run ha tw es.toList 0 he hf).1 hn
  have hfk := find_ask w (ptrV a) (.inr ⟨a, rfl⟩) es.toList (keys_ptr he)
  refine ⟨{ w with heap := w.heap.setIfInBounds m (.map (es.push { key := ptrV a, val := ptrV b, born := clock }) (clock + 1)) }, ?_, ⟨es.push { key := ptrV a, val := ptrV b, born := clock }, clock + 1, by simp [hl], by simp [he]⟩, ⟨rfl, rfl, rfl, by simp, fun i hi hS => by simp [Ne.symm hS]⟩, by simp⟩
  simp [Instr.mapUpdate, run_underlying u81, MapKept.run_getObj_map hb, check63, hfk, h1, MapKept.run_setObj_map _ hb, Result.andThen]
end Go.Proofs.Ytjgiohlkpenipaa
