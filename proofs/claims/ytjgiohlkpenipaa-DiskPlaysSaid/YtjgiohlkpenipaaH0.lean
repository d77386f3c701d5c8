/- Disks side by side, and a crash behind a crash. Conditions: as each theorem states them. -/
import Derived.Test.YtjgiohlkpenipaaG6
namespace Go.Proofs.Ytjgiohlkpenipaa
open Go.RowKit Go.Maps
set_option linter.unusedVariables false
set_option linter.unusedSimpArgs false

/-- Disks apart, all at B or above. -/
def Ds (w : World) (l : List (Nat × DS)) (B : Nat) : Prop := ∃ F : Nat → Lay, ∀ i d s, l[i]? = some (d, s) → (F i).d = d ∧ DAt w (F i) s ∧ (∀ b, Foot (F i) s b → B ≤ b) ∧ ∀ j e t, l[j]? = some (e, t) → i ≠ j → ∀ b, Foot (F i) s b → ¬ Foot (F j) t b
theorem Ds.nil (w : World) (B : Nat) : Ds w [] B := ⟨fun _ => ⟨0, 0, 0, fun _ => 0, .slice none 0 0⟩, fun i d s h => by cases h⟩
theorem Ds.below {w w' : World} {l : List (Nat × DS)} {B : Nat} (h : Ds w l B) (k : Below w.heap.size w w') : Ds w' l B := by
  obtain ⟨F, h⟩ := h
  exact ⟨F, fun i d s hi => ⟨(h i d s hi).1, (h i d s hi).2.1.below k, (h i d s hi).2.2⟩⟩
theorem Ds.one {w : World} {l : List (Nat × DS)} {B i d : Nat} {s : DS} (h : Ds w l B) (hi : l[i]? = some (d, s)) : Dk w d s B := by
  obtain ⟨F, h⟩ := h
  obtain ⟨h1, h2, h3, _⟩ := h i d s hi
  exact ⟨F i, h1, h2, h3⟩
theorem Ds.add {w w' : World} {l : List (Nat × DS)} {B e : Nat} {t : DS} (h : Ds w l B) (hB : B ≤ w.heap.size) (k : Below w.heap.size w w') (h2 : Dk w' e t w.heap.size) : Ds w' (l ++ [(e, t)]) B := by
  obtain ⟨F, h⟩ := h
  obtain ⟨M, e1, e2, e3⟩ := h2
  have hlt : ∀ i d s, l[i]? = some (d, s) → i < l.length := fun i d s hi => (List.getElem?_eq_some_iff.1 hi).1
  have hcase : ∀ i d s, (l ++ [(e, t)])[i]? = some (d, s) → (l[i]? = some (d, s) ∧ i < l.length) ∨ (i = l.length ∧ d = e ∧ s = t) := fun i d s hi => by
    by_cases hil : i < l.length
    · rw [List.getElem?_append_left hil] at hi
      exact .inl ⟨hi, hil⟩
    · rw [List.getElem?_append_right (by omega)] at hi
      have h0 : i - l.length = 0 := by
        have := (List.getElem?_eq_some_iff.1 hi).1
        simp at this
        omega
      rw [h0] at hi
      simp at hi
      exact .inr ⟨by omega, hi.1.symm, hi.2.symm⟩
  refine ⟨fun i => if i = l.length then M else F i, fun i d s hi => ?_⟩
  dsimp only
  rcases hcase i d s hi with ⟨hi, hil⟩ | ⟨rfl, rfl, rfl⟩
  · rw [if_neg (by omega)]
    obtain ⟨a1, a2, a3, a4⟩ := h i d s hi
    refine ⟨a1, a2.below k, a3, fun j e' t' hj hij b hb => ?_⟩
    rcases hcase j e' t' hj with ⟨hj, hjl⟩ | ⟨rfl, rfl, rfl⟩
    · rw [if_neg (by omega)]
      exact a4 j e' t' hj hij b hb
    · rw [if_pos rfl]
      intro hc
      have := a2.foot_lt hb
      have := e3 b hc
      omega
  · rw [if_pos rfl]
    refine ⟨e1, e2, fun b hb => by have := e3 b hb; omega, fun j e' t' hj hij b hb => ?_⟩
    rcases hcase j e' t' hj with ⟨hj, hjl⟩ | ⟨rfl, _, _⟩
    · rw [if_neg (by omega)]
      intro hc
      have := (h j e' t' hj).2.1.foot_lt hc
      have := e3 b hb
      omega
    · exact absurd rfl hij
theorem Ds.op {w w' : World} {l : List (Nat × DS)} {B i d : Nat} {s s' : DS} {r : Ending} (F : Nat → Lay) (h : ∀ i d s, l[i]? = some (d, s) → (F i).d = d ∧ DAt w (F i) s ∧ (∀ b, Foot (F i) s b → B ≤ b) ∧ ∀ j e t, l[j]? = some (e, t) → i ≠ j → ∀ b, Foot (F i) s b → ¬ Foot (F j) t b) (hi : l[i]? = some (d, s)) (hB : B ≤ w.heap.size) (hr : DoR w (F i) s s' r w') :
    r = .returned (.tuple #[]) ∧ Ds w' (l.set i (d, s')) B ∧ Below B w w' := by
  have H0 := h
  obtain ⟨a1, a2, a3, a4⟩ := h i d s hi
  obtain ⟨h1, L', h2, h3, h4, h5⟩ := hr
  refine ⟨h1, ⟨fun j => if j = i then L' else F j, fun j e t hj => ?_⟩, h4.below hB a3⟩
  have hil := (List.getElem?_eq_some_iff.1 hi).1
  dsimp only
  have hoff : ∀ j e t, l[j]? = some (e, t) → j ≠ i → ∀ b, Foot L' s' b → ¬ Foot (F j) t b := fun j e t hj hji b hb hc => by
    rcases h5 b hb with h | h
    · exact a4 j e t hj (fun e => hji e.symm) b h hc
    · have := (H0 j e t hj).2.1.foot_lt hc
      omega
  by_cases hji : j = i
  · subst hji
    rw [List.getElem?_set_self hil] at hj
    cases hj
    rw [if_pos rfl]
    refine ⟨h2.trans a1, h3, fun b hb => ?_, fun j' e t hj' hij b hb => ?_⟩
    · rcases h5 b hb with h | h
      · exact a3 b h
      · omega
    · rw [List.getElem?_set_ne hij] at hj'
      rw [if_neg (fun e => hij e.symm)]
      exact hoff j' e t hj' (fun e => hij e.symm) b hb
  · rw [List.getElem?_set_ne (fun e => hji e.symm)] at hj
    rw [if_neg hji]
    obtain ⟨b1, b2, b3, b4⟩ := h j e t hj
    refine ⟨b1, b2.kw h4 (fun b hb => b4 i d s hi hji b hb), b3, fun j' e' t' hj' hij b hb => ?_⟩
    by_cases hj'i : j' = i
    · subst hj'i
      rw [List.getElem?_set_self hil] at hj'
      cases hj'
      rw [if_pos rfl]
      exact fun hc => hoff j e t hj hji b hc hb
    · rw [List.getElem?_set_ne (fun e => hj'i e.symm)] at hj'
      rw [if_neg hj'i]
      exact b4 j' e' t' hj' hij b hb
section
variable {w : World} {l : List (Nat × DS)} {B i d : Nat} {s : DS}
theorem does_ds (h : Ds w l B) (hi : l[i]? = some (d, s)) (iv : Inv s) (hs : s.steps < 1000000) (hB : B ≤ w.heap.size) (o : Oq) (name : ByteArray) (hn : okN o.nm) (hd : o.dt.size ≤ 2000) (hnn : o.n < 9223372036854775808) :
    Calls Try.prog 19 #[ptrV d, opV o, .string name] w fun r w' => r = .returned (.tuple #[]) ∧ Ds w' (l.set i (d, s.does o name)) B ∧ Below B w w' := by
  obtain ⟨F, h⟩ := h
  have h1 := h i d s hi
  rw [← dP_eq h1.1]
  exact (does_any (F i) s o name w h1.2.1 iv hs hn hd hnn).mono (fun r w' hr => Ds.op F h hi hB hr)
theorem crash_ds (h : Ds w l B) (hi : l[i]? = some (d, s)) (iv : Inv s) (hB : B ≤ w.heap.size) {cs : List Int} {A : Option Addr} {c : Nat} (hA : RdC w A cs) (hc : cs.length ≤ c) (hoff : 0 < cs.length → ChA B A) :
    Calls Try.prog 16 #[ptrV d, .slice A cs.length c] w fun r w' => r = .returned (.tuple #[]) ∧ Ds w' (l.set i (d, s.crash cs)) B ∧ Below B w w' := by
  obtain ⟨F, h⟩ := h
  have h1 := h i d s hi
  rw [← dP_eq h1.1]
  refine (crash_any (F i) s cs A c w h1.2.1 iv.ok iv.sk hA hc (fun hp a ha => ?_)).mono (fun r w' hr => Ds.op F h hi hB hr)
  have := hoff hp a ha
  exact ⟨by omega, fun hb => by have := h1.2.2.1 _ hb; omega⟩
theorem copy_ds (h : Ds w l B) (hi : l[i]? = some (d, s)) (iv : Inv s) (hB : B ≤ w.heap.size) :
    Calls Try.prog 24 #[ptrV d] w fun r w' => ∃ e, r = .returned (ptrV e) ∧ Ds w' (l ++ [(e, s)]) B ∧ Below w.heap.size w w' := by
  obtain ⟨L, rfl, h2, h3⟩ := h.one hi
  refine (copy_any L s w h2 iv).mono ?_
  rintro r w' ⟨e, rfl, h4, h5⟩
  exact ⟨e, rfl, h.add hB h5 h4, h5⟩
theorem same_ds {j e : Nat} {t : DS} (h : Ds w l B) (hi : l[i]? = some (d, s)) (hj : l[j]? = some (e, t)) (iv : Inv s) (it : Inv t) (ha : Alike s t) : Calls Try.prog 23 #[ptrV d, ptrV e] w fun r w' => r = .returned (.bool true) ∧ Below w.heap.size w w' := by
  obtain ⟨L, rfl, h2, _⟩ := h.one hi
  obtain ⟨M, rfl, h3, _⟩ := h.one hj
  exact same_any L M s t w h2 h3 iv it ha
end
/-! ## A crash behind a crash -/
theorem cutF_full (cs : List Int) {f : Fl} (h : f.sure ≤ f.data.size) : (cutF cs f).1.sure = (cutF cs f).1.data.size := by
  unfold cutF
  split
  · rename_i hlt
    have hp := pick_lt cs (n := f.data.size - f.sure + 1) (by omega)
    dsimp only
    rw [ByteArray.size_extract]
    omega
  · dsimp only
    omega
theorem cutF_id (cs : List Int) {f : Fl} (h : f.sure = f.data.size) : cutF cs f = (f, cs) := by
  unfold cutF
  rw [if_neg (by omega)]
theorem cutAll_full : ∀ (l : Dir) (s : DS) (cs : List Int), (∀ i, (s.file i).sure ≤ (s.file i).data.size) → (∀ p ∈ l, p.2 < s.files.length) → ∀ i, ((∃ p ∈ l, p.2 = i) ∨ (s.file i).sure = (s.file i).data.size) → ((cutAll l s cs).1.file i).sure = ((cutAll l s cs).1.file i).data.size
  | [], s, cs, _, _, i, h => by
    rcases h with ⟨p, hp, _⟩ | h
    · cases hp
    · exact h
  | p :: l, s, cs, hs, hl, i, h => by
    have hp := hl p (List.mem_cons_self ..)
    have hf : ∀ j, (s.setF p.2 (cutF cs (s.file p.2)).1).file j = if j = p.2 then (cutF cs (s.file p.2)).1 else s.file j := fun j => file_set hp j
    refine cutAll_full l (s.setF p.2 (cutF cs (s.file p.2)).1) (cutF cs (s.file p.2)).2 (fun j => ?_) (fun q hq => ?_) i ?_
    · rw [hf]
      split
      · exact Nat.le_of_eq (cutF_full cs (hs _))
      · exact hs j
    · have := hl q (List.mem_cons_of_mem _ hq)
      unfold DS.setF
      simpa using this
    · by_cases he : i = p.2
      · right
        rw [hf, if_pos he]
        exact cutF_full cs (hs _)
      · rcases h with ⟨q, hq, e⟩ | h
        · rcases List.mem_cons.1 hq with e2 | hq
          · exact absurd (by rw [← e, e2]) he
          · exact .inl ⟨q, hq, e⟩
        · right
          rw [hf, if_neg he]
          exact h
theorem crash_twice {s : DS} (iv : Inv s) (hlt : ∀ i, s.has i → i < s.files.length) (a b : List Int) : (s.crash a).crash b = s.crash a := by
  obtain ⟨k, hk⟩ : ∃ k, pick a (s.waits.length + 1) = k := ⟨_, rfl⟩
  obtain ⟨t, ht⟩ : ∃ t, s.crash a = t := ⟨_, rfl⟩
  have ht2 := ht
  unfold DS.crash at ht2
  rw [hk] at ht2
  have hin : ∀ p ∈ (s.keep k).kept, p.2 < (s.keep k).files.length := fun p hp => by
    rcases mem_alts (i := p.2) (n := p.1) hp with h | ⟨c, hc, h1, h2⟩
    · exact hlt _ (.inr (.inl ⟨_, h⟩))
    · exact hlt _ (.inr (.inr ⟨c, List.mem_of_mem_take hc, h1, h2⟩))
  have hsu : ∀ i, ((s.keep k).file i).sure ≤ ((s.keep k).file i).data.size := fun i => iv.ok.su i
  obtain ⟨h1, h2, h3, h4⟩ := cutAll_dir (s.keep k).kept (s.keep k) a.tail
  have hfull := fun p (hp : p ∈ (s.keep k).kept) => cutAll_full (s.keep k).kept (s.keep k) a.tail hsu hin p.2 (.inl ⟨p, hp, rfl⟩)
  have hkt : t.kept = (s.keep k).kept := by rw [← ht2]; exact h1
  have hft : t.files.length = (s.keep k).files.length := by rw [← ht2]; exact h4
  have hfi : ∀ i, t.file i = (cutAll (s.keep k).kept (s.keep k) a.tail).1.file i := fun i => by rw [← ht2]; rfl
  have e1 : t.keep (pick b (t.waits.length + 1)) = t := by
    have hw : t.waits = [] := by rw [← ht2]; rfl
    have e : alts t.kept (t.waits.take (pick b (t.waits.length + 1))) = t.kept := by rw [hw, List.take_nil]; rfl
    show ({ t with kept := alts t.kept (t.waits.take (pick b (t.waits.length + 1))) } : DS) = t
    rw [e]
  have e2 : t.boot = t := by rw [← ht2]; rfl
  rw [ht]
  unfold DS.crash
  rw [e1, cutAll_sure _ _ _ (fun p hp => by
    rw [hkt] at hp
    rw [hfi, hft]
    exact ⟨hfull p hp, hin p hp⟩)]
  exact e2
theorem crash_up (s : DS) (cs : List Int) : (s.crash cs).down = false ∧ (s.crash cs).steps = s.steps := by
  refine ⟨rfl, ?_⟩
  unfold DS.crash DS.boot
  exact (cutAll_rest _ _ _).2
end Go.Proofs.Ytjgiohlkpenipaa
