/- Names in order; a crash, in plain words. Conditions: as each theorem states them. -/
import Derived.Test.YtjgiohlkpenipaaB6
namespace Go.Proofs.Ytjgiohlkpenipaa
open Go.RowKit Go.Maps
set_option linter.unusedVariables false
set_option linter.unusedSimpArgs false

/-- A directory's names rise. -/
def srt (l : Dir) : Prop := l.Pairwise (fun p q => p.1.data.toList < q.1.data.toList)
theorem srt.wo {l : Dir} (h : srt l) (n : ByteArray) : srt (wo l n) := List.Pairwise.filter _ h
theorem lt_tri (x y : List UInt8) : x < y ∨ x = y ∨ y < x := by
  rcases List.le_total x y with h | h
  · rcases List.le_iff_lt_or_eq.1 h with h | h
    · exact .inl h
    · exact .inr (.inl h)
  · rcases List.le_iff_lt_or_eq.1 h with h | h
    · exact .inr (.inr h)
    · exact .inr (.inl h.symm)
theorem bytes_inj {a b : ByteArray} (h : a.data.toList = b.data.toList) : a = b := by
  cases a; cases b
  simp at h
  simp [h]
theorem srt.ins {l : Dir} (h : srt l) {n : ByteArray} (f : Nat) (hn : ∀ p ∈ l, p.1 ≠ n) : srt (ins n f l) := by
  induction l with
  | nil => exact List.pairwise_singleton _ _
  | cons p l ih =>
    have h' := List.pairwise_cons.1 h
    unfold Ytjgiohlkpenipaa.ins
    split
    · rename_i hb
      have hb : n.data.toList < p.1.data.toList := by simpa [bLt] using hb
      refine List.pairwise_cons.2 ⟨fun q hq => ?_, h⟩
      rcases List.mem_cons.1 hq with rfl | hq
      · exact hb
      · exact List.lt_trans hb (h'.1 q hq)
    · rename_i hb
      have hb : p.1.data.toList < n.data.toList := by
        rcases lt_tri n.data.toList p.1.data.toList with e | e | e
        · exact absurd (by simpa [bLt] using e) hb
        · exact absurd (bytes_inj e).symm (hn p (List.mem_cons_self ..))
        · exact e
      refine List.pairwise_cons.2 ⟨fun q hq => ?_, ih h'.2 (fun q hq => hn q (List.mem_cons_of_mem _ hq))⟩
      rcases List.mem_cons.1 ((ins_perm n f l).mem_iff.1 hq) with rfl | hq
      · exact hb
      · exact h'.1 q hq
theorem srt.wi {l : Dir} (h : srt l) (n : ByteArray) (f : Nat) : srt (wi l n f) := (h.wo n).ins f (fun p hp => (mem_wo.1 hp).2)
theorem srt.alt {l : Dir} (h : srt l) (c : Ch) : srt (alt l c) := by
  unfold Ytjgiohlkpenipaa.alt
  dsimp only
  have h1 : srt (if c.frm = ByteArray.empty then l else Ytjgiohlkpenipaa.wo l c.frm) := by
    split
    · exact h
    · exact h.wo _
  split
  · exact h1
  · exact h1.wi _ _
theorem lt_irr (x : List UInt8) : ¬ x < x := List.lt_irrefl x
theorem srt.nodup {l : Dir} (h : srt l) : (l.map (fun p => p.1.data.toList)).Nodup := List.pairwise_map.2 (List.Pairwise.imp (fun {a b} hab e => by rw [e] at hab; exact lt_irr _ hab) h)
theorem MapAt.perm_keys {w : World} {m : Nat} {l : Dir} {bk : Nat → Nat} {D : DataW Unit} (h : MapAt w m l bk D) : (l.map (fun p => p.1.data.toList)).Perm (strKeys D) := by
  obtain ⟨es, hD, hpw, _⟩ := h.own.entries keyS
  obtain ⟨es', hD', hko⟩ := h.own.keysOf
  obtain rfl : es = es' := by rw [hD] at hD'; simpa using hD'
  subst hD
  have hkk : ∀ p ∈ es, ∃ x : ByteArray, p.1 = klS x ∧ okN x := fun p hp => by
    obtain ⟨v, hv⟩ := hko p hp
    obtain ⟨x, _, hx, hl⟩ := Maps.keyOf_str Try.underlying9 hv
    exact ⟨⟨x.toArray⟩, by rw [hx]; simp [klS], by show x.toArray.size ≤ maxLen; simpa using hl⟩
  refine perm_strKeys hpw (fun p hp => by obtain ⟨x, hx, _⟩ := hkk p hp; exact ⟨_, hx⟩) ?_ (fun x => ?_)
  · have := h.nd
    rw [show (l.map (fun p => p.1.data.toList)) = (l.map Prod.fst).map (fun n => n.data.toList) by rw [List.map_map]; rfl]
    exact List.pairwise_map.2 (List.Pairwise.imp (fun {a b} hab e => hab (bytes_inj e)) this)
  · rw [List.mem_map]
    constructor
    · rintro ⟨p, hp, rfl⟩
      exact (h.at_ p hp).1
    · intro hh
      have hh' := hh
      rw [has_eq, List.any_eq_true] at hh
      obtain ⟨p, hp, hs⟩ := hh
      obtain ⟨y, hy, hok⟩ := hkk p hp
      rw [hy] at hs
      have e : y.data.toList = x := by simpa [klS, Lit.sameKey] using hs
      subst e
      by_cases hm : ∃ q ∈ l, q.1 = y
      · obtain ⟨q, hq, e⟩ := hm
        exact ⟨q, hq, by rw [e]⟩
      · have := h.no y hok (fun q hq e => hm ⟨q, hq, e⟩)
        rw [show klS y = .string y.data.toList from rfl, hh'] at this
        cases this
theorem MapAt.sorted {w : World} {m : Nat} {l : Dir} {bk : Nat → Nat} {D : DataW Unit} (h : MapAt w m l bk D) (hs : srt l) {ss : List (List UInt8)} (hp : ss.Perm (strKeys D)) :
    ss.mergeSort (fun x y => decide (x ≤ y)) = l.map (fun p => p.1.data.toList) := by
  have h1 := mergeSort_of_perm (hp.trans h.perm_keys.symm)
  have h2 : (l.map (fun p => p.1.data.toList)).Pairwise (fun x y => leB x y = true) := List.pairwise_map.2 (List.Pairwise.imp (fun {a b} hab => by simpa [leB] using List.le_of_lt hab) hs)
  exact h1.trans (List.mergeSort_of_pairwise h2)
theorem look_mem {l : Dir} (hnd : (l.map Prod.fst).Nodup) {n : ByteArray} {i : Nat} (h : (n, i) ∈ l) : look l n = some i := by
  cases hl : look l n with
  | none => exact absurd rfl (look_none hl _ h)
  | some j =>
    have h2 := look_some hl
    clear hl
    induction l with
    | nil => cases h
    | cons p l ih =>
      rw [List.map_cons, List.nodup_cons] at hnd
      rcases List.mem_cons.1 h with e | h
      · rcases List.mem_cons.1 h2 with e2 | h2
        · rw [← e] at e2
          cases e2
          rfl
        · exact absurd (List.mem_map.2 ⟨_, h2, by rw [← e]⟩) hnd.1
      · rcases List.mem_cons.1 h2 with e2 | h2
        · exact absurd (List.mem_map.2 ⟨_, h, by rw [← e2]⟩) hnd.1
        · exact ih hnd.2 h h2

/-! ## A crash -/
/-- A file behind a crash, and the choices that are left. -/
def cutF (cs : List Int) (f : Fl) : Fl × List Int :=
  if f.sure < f.data.size then (⟨f.data.extract 0 (f.sure + pick cs (f.data.size - f.sure + 1)), f.sure + pick cs (f.data.size - f.sure + 1)⟩, cs.tail) else (f, cs)
/-- The files of a directory behind a crash, one behind the other. -/
def cutAll : Dir → DS → List Int → DS × List Int
  | [], s, cs => (s, cs)
  | p :: l, s, cs => cutAll l (s.setF p.2 (cutF cs (s.file p.2)).1) (cutF cs (s.file p.2)).2
/-- What a directory comes to by changes. -/
def alts (l : Dir) (cs : List Ch) : Dir := cs.foldl alt l
def DS.keep (s : DS) (n : Nat) : DS := { s with kept := alts s.kept (s.waits.take n) }
def DS.boot (s : DS) : DS := { s with dir := s.kept, waits := [], fuse := 0, down := false }
def DS.crash (s : DS) (cs : List Int) : DS :=
  (cutAll (s.keep (pick cs (s.waits.length + 1))).kept (s.keep (pick cs (s.waits.length + 1))) cs.tail).1.boot
theorem alts_take {l : Dir} {cs : List Ch} {i : Nat} (h : i < cs.length) : alts l (cs.take (i + 1)) = alt (alts l (cs.take i)) (cs.getD i zeroC) := by
  unfold alts
  rw [List.take_succ_eq_append_getElem h, List.foldl_append, List.getD_eq_getElem?_getD, List.getElem?_eq_getElem h]
  rfl
theorem alts_len (l : Dir) (cs : List Ch) : (alts l cs).length ≤ l.length + cs.length := by
  induction cs generalizing l with
  | nil => exact Nat.le_refl _
  | cons c cs ih =>
    have h1 := ih (alt l c)
    have h2 : (alt l c).length ≤ l.length + 1 := by
      have h3 : (if c.frm = ByteArray.empty then l else wo l c.frm).length ≤ l.length := by
        split
        · exact Nat.le_refl _
        · exact wo_le _ _
      unfold alt
      dsimp only
      split
      · omega
      · rw [wi_len]
        have := wo_le (if c.frm = ByteArray.empty then l else wo l c.frm) c.to
        omega
    show (alts (alt l c) cs).length ≤ _
    simp only [List.length_cons]
    omega
theorem alts_srt {l : Dir} (h : srt l) (cs : List Ch) : srt (alts l cs) := by
  induction cs generalizing l with
  | nil => exact h
  | cons c cs ih => exact ih (h.alt c)
theorem mem_alts {l : Dir} {cs : List Ch} {n : ByteArray} {i : Nat} (h : (n, i) ∈ alts l cs) : (n, i) ∈ l ∨ ∃ c ∈ cs, c.to ≠ ByteArray.empty ∧ c.fi = i := by
  induction cs generalizing l with
  | nil => exact .inl h
  | cons c cs ih =>
    rcases ih (l := alt l c) h with h | ⟨d, hd, h⟩
    · rcases mem_alt h with h | h
      · exact .inl h
      · exact .inr ⟨c, List.mem_cons_self .., h⟩
    · exact .inr ⟨d, List.mem_cons_of_mem _ hd, h⟩
theorem setF_has {s : DS} {i : Nat} {f : Fl} {j : Nat} : (s.setF i f).has j ↔ s.has j := Iff.rfl
end Go.Proofs.Ytjgiohlkpenipaa
