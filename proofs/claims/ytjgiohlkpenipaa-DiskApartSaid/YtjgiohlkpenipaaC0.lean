/- What a disk's calls keep. Conditions: as each theorem states them. -/
import Derived.Test.YtjgiohlkpenipaaB8
namespace Go.Proofs.Ytjgiohlkpenipaa
open Go.RowKit Go.Maps
set_option linter.unusedVariables false
set_option linter.unusedSimpArgs false

structure Inv (s : DS) : Prop where
  ok : OkS s
  sd : srt s.dir
  sk : srt s.kept
theorem Inv.new {room : Nat} (h : room ≤ 268435456) : Inv (newS room) := ⟨newS_ok h, List.Pairwise.nil, List.Pairwise.nil⟩
theorem Inv.tick {s : DS} (h : Inv s) (hs : s.steps < 1000000) : Inv s.tick := ⟨h.ok.tick hs, h.sd, h.sk⟩
theorem Inv.gone {s : DS} (h : Inv s) : Inv s.gone := ⟨⟨h.ok.rm, h.ok.st, by show 0 < _; omega, h.ok.dl, h.ok.kl, h.ok.fs, h.ok.su, h.ok.nd, h.ok.nk, h.ok.nw⟩, h.sd, h.sk⟩
theorem alt_len (l : Dir) (c : Ch) : (alt l c).length ≤ l.length + 1 := by
  have h3 : (if c.frm = ByteArray.empty then l else wo l c.frm).length ≤ l.length := by
    split
    · exact Nat.le_refl _
    · exact wo_le _ _
  unfold alt
  dsimp only
  split
  · omega
  · rw [wi_len]
    have := wo_le (if c.frm = ByteArray.empty then l else wo l c.frm) c.to
    omega
theorem alt_named {l : Dir} {c : Ch} (h : ∀ p ∈ l, named p.1) (hc : c.to = ByteArray.empty ∨ named c.to) : ∀ p ∈ alt l c, named p.1 := by
  have h1 : ∀ p, p ∈ (if c.frm = ByteArray.empty then l else wo l c.frm) → p ∈ l := fun p hp => by
    split at hp
    · exact hp
    · exact (mem_wo.1 hp).1
  intro p hp
  unfold alt at hp
  dsimp only at hp
  split at hp
  · exact h p (h1 p hp)
  · rename_i ht
    rcases List.mem_cons.1 ((wi_perm _ _ _).mem_iff.1 hp) with rfl | hp
    · exact hc.resolve_left ht
    · exact h p (h1 p (mem_wo.1 hp).1)
/-- A step's state keeps what it must, if what is done does. -/
theorem Inv.step {s : DS} (h : Inv s) {e : Int} {f : DS → DS} (hf : s.down = false → e = 0 → Inv (f s.tick)) : Inv (s.step e f).2 := by
  unfold DS.step
  by_cases h1 : s.down = true
  · rw [if_pos h1]; exact h
  · rw [if_neg h1]
    by_cases h2 : e = 0
    · rw [if_neg (by simpa using h2)]
      by_cases h3 : s.fuse = 1
      · rw [if_pos h3]; exact h.gone
      · rw [if_neg h3]; exact hf (by simpa using h1) h2
    · rw [if_pos h2]; exact h
/-- A change, done on a disk that has counted its step. -/
theorem Inv.chg {s : DS} (h : Inv s) (hl : s.dir.length + 1 ≤ s.steps) (hk : s.kept.length + s.waits.length + 1 ≤ s.steps) {c : Ch} (h1 : c.frm = ByteArray.empty ∨ named c.frm) (h2 : c.to = ByteArray.empty ∨ named c.to) : Inv (s.chg c) := by
  refine ⟨⟨h.ok.rm, h.ok.st, h.ok.fu, ?_, ?_, h.ok.fs, h.ok.su, alt_named h.ok.nd h2, h.ok.nk, fun d hd => ?_⟩, h.sd.alt c, h.sk⟩
  · have := alt_len s.dir c
    show (alt s.dir c).length ≤ s.steps
    omega
  · show s.kept.length + (s.waits ++ [c]).length ≤ s.steps
    rw [List.length_append, List.length_singleton]
    omega
  · rcases List.mem_append.1 hd with hd | hd
    · exact h.ok.nw d hd
    · obtain rfl := List.mem_singleton.1 hd
      exact ⟨h1, h2⟩
theorem Inv.grow {s : DS} (h : Inv s) : Inv s.grow := by
  refine ⟨⟨h.ok.rm, h.ok.st, h.ok.fu, h.ok.dl, h.ok.kl, fun i => ?_, fun i => ?_, h.ok.nd, h.ok.nk, h.ok.nw⟩, h.sd, h.sk⟩
  · rw [file_grow]; exact h.ok.fs i
  · rw [file_grow]; exact h.ok.su i
theorem setF_ge {s : DS} {i : Nat} {f : Fl} (h : ¬ i < s.files.length) : s.setF i f = s := by
  unfold DS.setF
  rw [List.set_eq_of_length_le (by omega)]
theorem Inv.setF {s : DS} (h : Inv s) (i : Nat) {f : Fl} (h1 : f.data.size ≤ 2000 * s.steps) (h2 : f.sure ≤ f.data.size) : Inv (s.setF i f) := by
  by_cases hi : i < s.files.length
  · refine ⟨⟨h.ok.rm, h.ok.st, h.ok.fu, h.ok.dl, h.ok.kl, fun j => ?_, fun j => ?_, h.ok.nd, h.ok.nk, h.ok.nw⟩, h.sd, h.sk⟩
    · rw [file_set hi]
      split
      · exact h1
      · exact h.ok.fs j
    · rw [file_set hi]
      split
      · exact h2
      · exact h.ok.su j
  · rw [setF_ge hi]
    exact h
theorem Inv.create {s : DS} (h : Inv s) (hs : s.steps < 1000000) (n : ByteArray) : Inv (s.create n).2 := by
  refine h.step (fun hd he => ?_)
  have := h.ok.dl
  have := h.ok.kl
  exact (h.tick hs).grow.chg (by show s.dir.length + 1 ≤ s.steps + 1; omega) (by show s.kept.length + s.waits.length + 1 ≤ s.steps + 1; omega) (.inl rfl) (.inr (ag_create he).1)
theorem Inv.append {s : DS} (h : Inv s) (hs : s.steps < 1000000) (n : ByteArray) {data : ByteArray} (hd : data.size ≤ 2000) : Inv (s.append n data).2 := by
  refine h.step (fun hd he => ?_)
  have h1 := h.ok.fs (s.at_ n)
  have h2 := h.ok.su (s.at_ n)
  refine (h.tick hs).setF _ ?_ ?_
  · show ((s.file (s.at_ n)).data ++ data).size ≤ 2000 * (s.steps + 1)
    rw [ByteArray.size_append]
    omega
  · show (s.file (s.at_ n)).sure ≤ ((s.file (s.at_ n)).data ++ data).size
    rw [ByteArray.size_append]
    omega
theorem Inv.fsync {s : DS} (h : Inv s) (hs : s.steps < 1000000) (n : ByteArray) : Inv (s.fsync n).2 := by
  refine h.step (fun hd he => (h.tick hs).setF _ ?_ (Nat.le_refl _))
  have h1 := h.ok.fs (s.at_ n)
  show (s.file (s.at_ n)).data.size ≤ 2000 * (s.steps + 1)
  omega
theorem Inv.dsync {s : DS} (h : Inv s) (hs : s.steps < 1000000) : Inv s.dsync.2 := by
  refine h.step (fun hd he => ?_)
  have h1 := (h.tick hs).ok
  exact ⟨⟨h1.rm, h1.st, h1.fu, h1.dl, by show s.dir.length + 0 ≤ s.steps + 1; have := h.ok.dl; omega, h1.fs, h1.su, h1.nd, h1.nd, fun c hc => by cases hc⟩, h.sd, h.sd⟩
theorem named_dir {s : DS} (h : Inv s) {n : ByteArray} {i : Nat} (hl : look s.dir n = some i) : named n := h.ok.nd _ (look_some hl)
theorem Inv.rename {s : DS} (h : Inv s) (hs : s.steps < 1000000) (n to : ByteArray) : Inv (s.rename n to).2 := by
  refine h.step (fun hd he => ?_)
  obtain ⟨ht, i, hi⟩ := ag_rename he
  have := h.ok.dl
  have := h.ok.kl
  exact (h.tick hs).chg (by show s.dir.length + 1 ≤ s.steps + 1; omega) (by show s.kept.length + s.waits.length + 1 ≤ s.steps + 1; omega) (.inr (named_dir h hi)) (.inr ht)
theorem Inv.remove {s : DS} (h : Inv s) (hs : s.steps < 1000000) (n : ByteArray) : Inv (s.remove n).2 := by
  refine h.step (fun hd he => ?_)
  obtain ⟨i, hi⟩ := ag_there he
  have := h.ok.dl
  have := h.ok.kl
  exact (h.tick hs).chg (by show s.dir.length + 1 ≤ s.steps + 1; omega) (by show s.kept.length + s.waits.length + 1 ≤ s.steps + 1; omega) (.inr (named_dir h hi)) (.inl rfl)
theorem Inv.fuseTo {s : DS} (h : Inv s) {n : Int} (hn : n < 9223372036854775808) : Inv (s.fuseTo n) := by
  unfold DS.fuseTo
  split
  · exact h
  · exact ⟨⟨h.ok.rm, h.ok.st, by show n.toNat < _; omega, h.ok.dl, h.ok.kl, h.ok.fs, h.ok.su, h.ok.nd, h.ok.nk, h.ok.nw⟩, h.sd, h.sk⟩
theorem alts_named {l : Dir} {cs : List Ch} (h : ∀ p ∈ l, named p.1) (hc : ∀ c ∈ cs, c.to = ByteArray.empty ∨ named c.to) : ∀ p ∈ alts l cs, named p.1 := by
  induction cs generalizing l with
  | nil => exact h
  | cons c cs ih => exact ih (alt_named h (hc c (List.mem_cons_self ..))) (fun d hd => hc d (List.mem_cons_of_mem _ hd))
/-- What a cut keeps of a file. -/
theorem cutF_size (cs : List Int) (f : Fl) : (cutF cs f).1.data.size ≤ f.data.size := by
  unfold cutF
  split
  · simp
    exact Nat.min_le_right _ _
  · exact Nat.le_refl _
theorem cutF_sure {cs : List Int} {f : Fl} (h : f.sure ≤ f.data.size) : (cutF cs f).1.sure = (cutF cs f).1.data.size ∨ (cutF cs f).1 = f ∧ f.sure = f.data.size := by
  unfold cutF
  split
  · have := pick_lt cs (n := f.data.size - f.sure + 1) (by omega)
    left
    simp
    omega
  · exact .inr ⟨rfl, by omega⟩
theorem cutAll_files : ∀ (l : Dir) (s : DS) (cs : List Int) (B : Nat), (∀ i, (s.file i).data.size ≤ B ∧ (s.file i).sure ≤ (s.file i).data.size) → ∀ i, ((cutAll l s cs).1.file i).data.size ≤ B ∧ ((cutAll l s cs).1.file i).sure ≤ ((cutAll l s cs).1.file i).data.size
  | [], s, cs, B, h => h
  | p :: l, s, cs, B, h => by
    refine cutAll_files l _ _ B (fun i => ?_)
    by_cases hi : p.2 < s.files.length
    · rw [file_set hi]
      split
      · have h1 := cutF_size cs (s.file p.2)
        obtain ⟨h2, h3⟩ := h p.2
        refine ⟨by omega, ?_⟩
        rcases cutF_sure (cs := cs) h3 with h4 | ⟨h4, _⟩
        · omega
        · rw [h4]; exact h3
      · exact h i
    · rw [setF_ge hi]
      exact h i
theorem cutAll_rest : ∀ (l : Dir) (s : DS) (cs : List Int), (cutAll l s cs).1.room = s.room ∧ (cutAll l s cs).1.steps = s.steps
  | [], s, cs => ⟨rfl, rfl⟩
  | p :: l, s, cs => cutAll_rest l (s.setF p.2 (cutF cs (s.file p.2)).1) (cutF cs (s.file p.2)).2
theorem Inv.crash {s : DS} (h : Inv s) (cs : List Int) : Inv (s.crash cs) := by
  unfold DS.crash
  generalize pick cs (s.waits.length + 1) = k
  obtain ⟨h1, h2, h3, h4⟩ := cutAll_dir (s.keep k).kept (s.keep k) cs.tail
  obtain ⟨h5, h6⟩ := cutAll_rest (s.keep k).kept (s.keep k) cs.tail
  have h7 := cutAll_files (s.keep k).kept (s.keep k) cs.tail (2000 * s.steps) (fun i => ⟨h.ok.fs i, h.ok.su i⟩)
  generalize (cutAll (s.keep k).kept (s.keep k) cs.tail).1 = t at *
  have hl : t.kept.length ≤ s.steps := by
    rw [h1]
    have h8 := alts_len s.kept (s.waits.take k)
    have h9 := h.ok.kl
    rw [List.length_take] at h8
    show (alts s.kept (s.waits.take k)).length ≤ _
    omega
  have hn : ∀ p ∈ t.kept, named p.1 := by
    rw [h1]
    exact alts_named h.ok.nk (fun c hc => (h.ok.nw c (List.mem_of_mem_take hc)).2)
  have hs : srt t.kept := by
    rw [h1]
    exact alts_srt h.sk _
  have h5 : t.room = s.room := h5
  have h6 : t.steps = s.steps := h6
  refine ⟨⟨by show t.room ≤ _; rw [h5]; exact h.ok.rm, by show t.steps ≤ _; rw [h6]; exact h.ok.st, by show 0 < _; omega, by show t.kept.length ≤ t.steps; omega, by show t.kept.length + 0 ≤ t.steps; omega, fun i => ?_, fun i => (h7 i).2, hn, hn, fun c hc => by cases hc⟩, hs, hs⟩
  have := (h7 i).1
  show (t.file i).data.size ≤ 2000 * t.steps
  rw [h6]
  exact this
theorem step_steps (s : DS) (e : Int) (f : DS → DS) (hf : (f s.tick).steps = s.tick.steps) : (s.step e f).2.steps ≤ s.steps + 1 := by
  unfold DS.step
  split
  · exact Nat.le_succ _
  · split
    · exact Nat.le_succ _
    · split
      · show s.steps ≤ _; omega
      · rw [hf]; exact Nat.le_refl _
end Go.Proofs.Ytjgiohlkpenipaa
