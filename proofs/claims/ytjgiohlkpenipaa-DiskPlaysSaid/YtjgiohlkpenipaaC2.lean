/- Contract of awake. Conditions: as each theorem states them. -/
import Derived.Test.YtjgiohlkpenipaaB8
namespace Go.Proofs.Ytjgiohlkpenipaa
open Go.RowKit Go.Maps
set_option linter.unusedVariables false
set_option linter.unusedSimpArgs false

structure Inv (s : DS) : Prop where
  ok : OkS s
  sd : srt s.dir
  sk : srt s.kept
theorem Inv.new {room : Nat} (h : room ≤ 268435456) : Inv (newS room) := ⟨newS_ok h, List.Pairwise.nil, List.Pairwise.nil⟩
theorem Inv.tick {s : DS} (h : Inv s) (hs : s.steps < 1000000) : Inv s.tick := ⟨h.ok.tick hs, h.sd, h.sk⟩
theorem Inv.gone {s : DS} (h : Inv s) : Inv s.gone := ⟨⟨h.ok.rm, h.ok.st, by show 0 < _; omega, h.ok.dl, h.ok.kl, h.ok.fs, h.ok.su, h.ok.nd, h.ok.nk, h.ok.nw⟩, h.sd, h.sk⟩
theorem alt_len (l : Dir) (c : Ch) : (alt l c).length ≤ l.length + 1 := by
  have h3 : (if c.frm = ByteArray.empty then l else wo l c.frm).length ≤ l.length := by
    split
    · exact Nat.le_refl _
    · exact wo_le _ _
  unfold alt
  dsimp only
  split
  · omega
  · rw [wi_len]
    have := wo_le (if c.frm = ByteArray.empty then l else wo l c.frm) c.to
    omega
theorem alt_named {l : Dir} {c : Ch} (h : ∀ p ∈ l, named p.1) (hc : c.to = ByteArray.empty ∨ named c.to) : ∀ p ∈ alt l c, named p.1 := by
  have h1 : ∀ p, p ∈ (if c.frm = ByteArray.empty then l else wo l c.frm) → p ∈ l := fun p hp => by
    split at hp
    · exact hp
    · exact (mem_wo.1 hp).1
  intro p hp
  unfold alt at hp
  dsimp only at hp
  split at hp
  · exact h p (h1 p hp)
  · rename_i ht
    rcases List.mem_cons.1 ((wi_perm _ _ _).mem_iff.1 hp) with rfl | hp
    · exact hc.resolve_left ht
    · exact h p (h1 p (mem_wo.1 hp).1)
/-- A step's state keeps what it must, if what is done does. -/
theorem Inv.step {s : DS} (h : Inv s) {e : Int} {f : DS → DS} (hf : s.down = false → e = 0 → Inv (f s.tick)) : Inv (s.step e f).2 := by
  unfold DS.step
  by_cases h1 : s.down = true
  · rw [if_pos h1]; exact h
  · rw [if_neg h1]
    by_cases h2 : e = 0
    · rw [if_neg (by simpa using h2)]
      by_cases h3 : s.fuse = 1
      · rw [if_pos h3]; exact h.gone
      · rw [if_neg h3]; exact hf (by simpa using h1) h2
    · rw [if_pos h2]; exact h
/-- A change, done on a disk that has counted its step. -/
theorem Inv.chg {s : DS} (h : Inv s) (hl : s.dir.length + 1 ≤ s.steps) (hk : s.kept.length + s.waits.length + 1 ≤ s.steps) {c : Ch} (h1 : c.frm = ByteArray.empty ∨ named c.frm) (h2 : c.to = ByteArray.empty ∨ named c.to) : Inv (s.chg c) := by
  refine ⟨⟨h.ok.rm, h.ok.st, h.ok.fu, ?_, ?_, h.ok.fs, h.ok.su, alt_named h.ok.nd h2, h.ok.nk, fun d hd => ?_⟩, h.sd.alt c, h.sk⟩
  · have := alt_len s.dir c
    show (alt s.dir c).length ≤ s.steps
    omega
  · show s.kept.length + (s.waits ++ [c]).length ≤ s.steps
    rw [List.length_append, List.length_singleton]
    omega
  · rcases List.mem_append.1 hd with hd | hd
    · exact h.ok.nw d hd
    · obtain rfl := List.mem_singleton.1 hd
      exact ⟨h1, h2⟩
theorem Inv.grow {s : DS} (h : Inv s) : Inv s.grow := by
  refine ⟨⟨h.ok.rm, h.ok.st, h.ok.fu, h.ok.dl, h.ok.kl, fun i => ?_, fun i => ?_, h.ok.nd, h.ok.nk, h.ok.nw⟩, h.sd, h.sk⟩
  · rw [file_grow]; exact h.ok.fs i
  · rw [file_grow]; exact h.ok.su i
theorem setF_ge {s : DS} {i : Nat} {f : Fl} (h : ¬ i < s.files.length) : s.setF i f = s := by
  unfold DS.setF
  rw [List.set_eq_of_length_le (by omega)]
theorem Inv.setF {s : DS} (h : Inv s) (i : Nat) {f : Fl} (h1 : f.data.size ≤ 2000 * s.steps) (h2 : f.sure ≤ f.data.size) : Inv (s.setF i f) := by
  by_cases hi : i < s.files.length
  · refine ⟨⟨h.ok.rm, h.ok.st, h.ok.fu, h.ok.dl, h.ok.kl, fun j => ?_, fun j => ?_, h.ok.nd, h.ok.nk, h.ok.nw⟩, h.sd, h.sk⟩
    · rw [file_set hi]
      split
      · exact h1
      · exact h.ok.fs j
    · rw [file_set hi]
      split
      · exact h2
      · exact h.ok.su j
  · rw [setF_ge hi]
    exact h
theorem Inv.create {s : DS} (h : Inv s) (hs : s.steps < 1000000) (n : ByteArray) : Inv (s.create n).2 := by
  refine h.step (fun hd he => ?_)
  have := h.ok.dl
  have := h.ok.kl
  exact (h.tick hs).grow.chg (by show s.dir.length + 1 ≤ s.steps + 1; omega) (by show s.kept.length + s.waits.length + 1 ≤ s.steps + 1; omega) (.inl rfl) (.inr (ag_create he).1)
theorem Inv.append {s : DS} (h : Inv s) (hs : s.steps < 1000000) (n : ByteArray) {data : ByteArray} (hd : data.size ≤ 2000) : Inv (s.append n data).2 := by
  refine h.step (fun hd he => ?_)
  have h1 := h.ok.fs (s.at_ n)
  have h2 := h.ok.su (s.at_ n)
  refine (h.tick hs).setF _ ?_ ?_
  · show ((s.file (s.at_ n)).data ++ data).size ≤ 2000 * (s.steps + 1)
    rw [ByteArray.size_append]
    omega
  · show (s.file (s.at_ n)).sure ≤ ((s.file (s.at_ n)).data ++ data).size
    rw [ByteArray.size_append]
    omega
theorem Inv.fsync {s : DS} (h : Inv s) (hs : s.steps < 1000000) (n : ByteArray) : Inv (s.fsync n).2 := by
  refine h.step (fun hd he => (h.tick hs).setF _ ?_ (Nat.le_refl _))
  have h1 := h.ok.fs (s.at_ n)
  show (s.file (s.at_ n)).data.size ≤ 2000 * (s.steps + 1)
  omega
theorem Inv.dsync {s : DS} (h : Inv s) (hs : s.steps < 1000000) : Inv s.dsync.2 := by
  refine h.step (fun hd he => ?_)
  have h1 := (h.tick hs).ok
  exact ⟨⟨h1.rm, h1.st, h1.fu, h1.dl, by show s.dir.length + 0 ≤ s.steps + 1; have := h.ok.dl; omega, h1.fs, h1.su, h1.nd, h1.nd, fun c hc => by cases hc⟩, h.sd, h.sd⟩
theorem named_dir {s : DS} (h : Inv s) {n : ByteArray} {i : Nat} (hl : look s.dir n = some i) : named n := h.ok.nd _ (look_some hl)
theorem Inv.rename {s : DS} (h : Inv s) (hs : s.steps < 1000000) (n to : ByteArray) : Inv (s.rename n to).2 := by
  refine h.step (fun hd he => ?_)
  obtain ⟨ht, i, hi⟩ := ag_rename he
  have := h.ok.dl
  have := h.ok.kl
  exact (h.tick hs).chg (by show s.dir.length + 1 ≤ s.steps + 1; omega) (by show s.kept.length + s.waits.length + 1 ≤ s.steps + 1; omega) (.inr (named_dir h hi)) (.inr ht)
theorem Inv.remove {s : DS} (h : Inv s) (hs : s.steps < 1000000) (n : ByteArray) : Inv (s.remove n).2 := by
  refine h.step (fun hd he => ?_)
  obtain ⟨i, hi⟩ := ag_there he
  have := h.ok.dl
  have := h.ok.kl
  exact (h.tick hs).chg (by show s.dir.length + 1 ≤ s.steps + 1; omega) (by show s.kept.length + s.waits.length + 1 ≤ s.steps + 1; omega) (.inr (named_dir h hi)) (.inl rfl)
theorem Inv.fuseTo {s : DS} (h : Inv s) {n : Int} (hn : n < 9223372036854775808) : Inv (s.fuseTo n) := by
  unfold DS.fuseTo
  split
  · exact h
  · exact ⟨⟨h.ok.rm, h.ok.st, by show n.toNat < _; omega, h.ok.dl, h.ok.kl, h.ok.fs, h.ok.su, h.ok.nd, h.ok.nk, h.ok.nw⟩, h.sd, h.sk⟩
theorem alts_named {l : Dir} {cs : List Ch} (h : ∀ p ∈ l, named p.1) (hc : ∀ c ∈ cs, c.to = ByteArray.empty ∨ named c.to) : ∀ p ∈ alts l cs, named p.1 := by
  induction cs generalizing l with
  | nil => exact h
  | cons c cs ih => exact ih (alt_named h (hc c (List.mem_cons_self ..))) (fun d hd => hc d (List.mem_cons_of_mem _ hd))
/-- What a cut keeps of a file. -/
theorem cutF_size (cs : List Int) (f : Fl) : (cutF cs f).1.data.size ≤ f.data.size := by
  unfold cutF
  split
  · simp
    exact Nat.min_le_right _ _
  · exact Nat.le_refl _
theorem cutF_sure {cs : List Int} {f : Fl} (h : f.sure ≤ f.data.size) : (cutF cs f).1.sure = (cutF cs f).1.data.size ∨ (cutF cs f).1 = f ∧ f.sure = f.data.size := by
  unfold cutF
  split
  · have := pick_lt cs (n := f.data.size - f.sure + 1) (by omega)
    left
    simp
    omega
  · exact .inr ⟨rfl, by omega⟩
theorem cutAll_files : ∀ (l : Dir) (s : DS) (cs : List Int) (B : Nat), (∀ i, (s.file i).data.size ≤ B ∧ (s.file i).sure ≤ (s.file i).data.size) → ∀ i, ((cutAll l s cs).1.file i).data.size ≤ B ∧ ((cutAll l s cs).1.file i).sure ≤ ((cutAll l s cs).1.file i).data.size
  | [], s, cs, B, h => h
  | p :: l, s, cs, B, h => by
    refine cutAll_files l _ _ B (fun i => ?_)
    by_cases hi : p.2 < s.files.length
    · rw [file_set hi]
      split
      · have h1 := cutF_size cs (s.file p.2)
        obtain ⟨h2, h3⟩ := h p.2
        refine ⟨by omega, ?_⟩
        rcases cutF_sure (cs := cs) h3 with h4 | ⟨h4, _⟩
        · omega
        · rw [h4]; exact h3
      · exact h i
    · rw [setF_ge hi]
      exact h i
theorem cutAll_rest : ∀ (l : Dir) (s : DS) (cs : List Int), (cutAll l s cs).1.room = s.room ∧ (cutAll l s cs).1.steps = s.steps
  | [], s, cs => ⟨rfl, rfl⟩
  | p :: l, s, cs => cutAll_rest l (s.setF p.2 (cutF cs (s.file p.2)).1) (cutF cs (s.file p.2)).2
theorem Inv.crash {s : DS} (h : Inv s) (cs : List Int) : Inv (s.crash cs) := by
  unfold DS.crash
  generalize pick cs (s.waits.length + 1) = k
  obtain ⟨h1, h2, h3, h4⟩ := cutAll_dir (s.keep k).kept (s.keep k) cs.tail
  obtain ⟨h5, h6⟩ := cutAll_rest (s.keep k).kept (s.keep k) cs.tail
  have h7 := cutAll_files (s.keep k).kept (s.keep k) cs.tail (2000 * s.steps) (fun i => ⟨h.ok.fs i, h.ok.su i⟩)
  generalize (cutAll (s.keep k).kept (s.keep k) cs.tail).1 = t at *
  have hl : t.kept.length ≤ s.steps := by
    rw [h1]
    have h8 := alts_len s.kept (s.waits.take k)
    have h9 := h.ok.kl
    rw [List.length_take] at h8
    show (alts s.kept (s.waits.take k)).length ≤ _
    omega
  have hn : ∀ p ∈ t.kept, named p.1 := by
    rw [h1]
    exact alts_named h.ok.nk (fun c hc => (h.ok.nw c (List.mem_of_mem_take hc)).2)
  have hs : srt t.kept := by
    rw [h1]
    exact alts_srt h.sk _
  have h5 : t.room = s.room := h5
  have h6 : t.steps = s.steps := h6
  refine ⟨⟨by show t.room ≤ _; rw [h5]; exact h.ok.rm, by show t.steps ≤ _; rw [h6]; exact h.ok.st, by show 0 < _; omega, by show t.kept.length ≤ t.steps; omega, by show t.kept.length + 0 ≤ t.steps; omega, fun i => ?_, fun i => (h7 i).2, hn, hn, fun c hc => by cases hc⟩, hs, hs⟩
  have := (h7 i).1
  show (t.file i).data.size ≤ 2000 * t.steps
  rw [h6]
  exact this
theorem step_steps (s : DS) (e : Int) (f : DS → DS) (hf : (f s.tick).steps = s.tick.steps) : (s.step e f).2.steps ≤ s.steps + 1 := by
  unfold DS.step
  split
  · exact Nat.le_succ _
  · split
    · exact Nat.le_succ _
    · split
      · show s.steps ≤ _; omega
      · rw [hf]; exact Nat.le_refl _
end Go.Proofs.Ytjgiohlkpenipaa
namespace Go.Proofs.Ytjgiohlkpenipaa
open Go.RowKit Go.Maps
set_option linter.unusedVariables false
set_option linter.unusedSimpArgs false

/-- At block d a disk in state s, all of it at B or above. -/
def Dk (w : World) (d : Nat) (s : DS) (B : Nat) : Prop := ∃ L, L.d = d ∧ DAt w L s ∧ ∀ b, Foot L s b → B ≤ b
theorem dP_eq {L : Lay} {d : Nat} (h : L.d = d) : dP L = ptrV d := by unfold dP ptrV; rw [h]
theorem Dk.below {w w' : World} {d : Nat} {s : DS} {B : Nat} (h : Dk w d s B) (k : Below w.heap.size w w') : Dk w' d s B := by
  obtain ⟨L, e, hd, hf⟩ := h
  exact ⟨L, e, hd.below k, hf⟩
theorem OpR.dk {w w' : World} {L : Lay} {s : DS} {res : Int × DS} {r : Ending} {B : Nat} (h : OpR w L s res r w') (hB : B ≤ w.heap.size) (hf : ∀ b, Foot L s b → B ≤ b) : r = .returned (.int .i64 res.1) ∧ Dk w' L.d res.2 B ∧ Below B w w' := by
  obtain ⟨h1, L', h2, h3, h4, h5⟩ := h
  refine ⟨h1, ⟨L', h2, h3, fun b hb => ?_⟩, h4.below hB hf⟩
  rcases h5 b hb with h | h
  · exact hf b h
  · omega
theorem DoR.dk {w w' : World} {L : Lay} {s s' : DS} {r : Ending} {B : Nat} (h : DoR w L s s' r w') (hB : B ≤ w.heap.size) (hf : ∀ b, Foot L s b → B ≤ b) : r = .returned (.tuple #[]) ∧ Dk w' L.d s' B ∧ Below B w w' := by
  obtain ⟨h1, L', h2, h3, h4, h5⟩ := h
  refine ⟨h1, ⟨L', h2, h3, fun b hb => ?_⟩, h4.below hB hf⟩
  rcases h5 b hb with h | h
  · exact hf b h
  · omega
section
variable {w : World} {d : Nat} {s : DS} {B : Nat}
theorem new_dk (room : Nat) (w : World) (h : room ≤ 268435456) : Calls Try.prog 10 #[.int .i64 room] w fun e w' => ∃ d, e = .returned (.tuple #[ptrV d, .int .i64 0]) ∧ Dk w' d (newS room) w.heap.size ∧ Below w.heap.size w w' := by
  refine (new_any room w h).mono ?_
  rintro e w' ⟨rfl, h1, h2⟩
  refine ⟨w.heap.size + 2, rfl, ⟨newL w, rfl, h1, fun b hb => ?_⟩, h2⟩
  rcases hb with e | e | e | ⟨i, hi, _⟩ | e
  · have e : b = w.heap.size + 2 := e
    omega
  · have e : b = w.heap.size := e
    omega
  · have e : b = w.heap.size + 1 := e
    omega
  · exact absurd hi (newS_has room i)
  · cases e
theorem create_dk (h : Dk w d s B) (iv : Inv s) (hs : s.steps < 1000000) (hB : B ≤ w.heap.size) {n : ByteArray} (hn : okN n) : Calls Try.prog 11 #[ptrV d, .string n] w fun r w' => r = .returned (.int .i64 (s.create n).1) ∧ Dk w' d (s.create n).2 B ∧ Below B w w' := by
  obtain ⟨L, rfl, hd, hf⟩ := h
  exact (create_any L s n w hd iv.ok hs hn).mono (fun r w' h => h.dk hB hf)
theorem append_dk (h : Dk w d s B) (iv : Inv s) (hs : s.steps < 1000000) (hB : B ≤ w.heap.size) {n data : ByteArray} (hn : okN n) (hds : data.size ≤ 2000) : Calls Try.prog 12 #[ptrV d, .string n, .string data] w fun r w' => r = .returned (.int .i64 (s.append n data).1) ∧ Dk w' d (s.append n data).2 B ∧ Below B w w' := by
  obtain ⟨L, rfl, hd, hf⟩ := h
  exact (append_any L s n data w hd iv.ok hs hn hds).mono (fun r w' h => h.dk hB hf)
theorem sync_dk (h : Dk w d s B) (iv : Inv s) (hs : s.steps < 1000000) (hB : B ≤ w.heap.size) {n : ByteArray} (hn : okN n) : Calls Try.prog 13 #[ptrV d, .string n] w fun r w' => r = .returned (.int .i64 (s.fsync n).1) ∧ Dk w' d (s.fsync n).2 B ∧ Below B w w' := by
  obtain ⟨L, rfl, hd, hf⟩ := h
  exact (sync_any L s n w hd iv.ok hs hn).mono (fun r w' h => h.dk hB hf)
theorem syncdir_dk (h : Dk w d s B) (iv : Inv s) (hs : s.steps < 1000000) (hB : B ≤ w.heap.size) : Calls Try.prog 14 #[ptrV d] w fun r w' => r = .returned (.int .i64 s.dsync.1) ∧ Dk w' d s.dsync.2 B ∧ Below B w w' := by
  obtain ⟨L, rfl, hd, hf⟩ := h
  exact (syncdir_any L s w hd iv.ok hs).mono (fun r w' h => h.dk hB hf)
theorem rename_dk (h : Dk w d s B) (iv : Inv s) (hs : s.steps < 1000000) (hB : B ≤ w.heap.size) {n to : ByteArray} (hn : okN n) : Calls Try.prog 15 #[ptrV d, .string n, .string to] w fun r w' => r = .returned (.int .i64 (s.rename n to).1) ∧ Dk w' d (s.rename n to).2 B ∧ Below B w w' := by
  obtain ⟨L, rfl, hd, hf⟩ := h
  exact (rename_any L s n to w hd iv.ok hs hn).mono (fun r w' h => h.dk hB hf)
theorem remove_dk (h : Dk w d s B) (iv : Inv s) (hs : s.steps < 1000000) (hB : B ≤ w.heap.size) {n : ByteArray} (hn : okN n) : Calls Try.prog 47 #[ptrV d, .string n] w fun r w' => r = .returned (.int .i64 (s.remove n).1) ∧ Dk w' d (s.remove n).2 B ∧ Below B w w' := by
  obtain ⟨L, rfl, hd, hf⟩ := h
  exact (remove_any L s n w hd iv.ok hs hn).mono (fun r w' h => h.dk hB hf)
/-- Choices below B, or none. -/
def ChA (B : Nat) (A : Option Addr) : Prop := ∀ a, A = some a → a.block < B
theorem crash_dk (h : Dk w d s B) (iv : Inv s) (hB : B ≤ w.heap.size) {cs : List Int} {A : Option Addr} {c : Nat} (hA : RdC w A cs) (hc : cs.length ≤ c) (hoff : 0 < cs.length → ∀ a, A = some a → a.block < w.heap.size ∧ ∀ L, L.d = d → DAt w L s → ¬ Foot L s a.block) : Calls Try.prog 16 #[ptrV d, .slice A cs.length c] w fun r w' => r = .returned (.tuple #[]) ∧ Dk w' d (s.crash cs) B ∧ Below B w w' := by
  obtain ⟨L, rfl, hd, hf⟩ := h
  exact (crash_any L s cs A c w hd iv.ok iv.sk hA hc (fun hp a ha => ⟨(hoff hp a ha).1, (hoff hp a ha).2 L rfl hd⟩)).mono (fun r w' h => h.dk hB hf)
theorem crash_arg (h : Dk w d s B) (iv : Inv s) (hB : B ≤ w.heap.size) {cs : List Int} {A : Option Addr} {c : Nat} (hA : RdC w A cs) (hc : cs.length ≤ c) (hoff : 0 < cs.length → ChA B A) : Calls Try.prog 16 #[ptrV d, .slice A cs.length c] w fun r w' => r = .returned (.tuple #[]) ∧ Dk w' d (s.crash cs) B ∧ Below B w w' := by
  obtain ⟨L, rfl, hd, hf⟩ := h
  refine (crash_any L s cs A c w hd iv.ok iv.sk hA hc (fun hp a ha => ?_)).mono (fun r w' h => h.dk hB hf)
  have := hoff hp a ha
  exact ⟨by omega, fun hb => by have := hf _ hb; omega⟩
theorem read_dk (h : Dk w d s B) {n : ByteArray} (hn : okN n) : Calls Try.prog 17 #[ptrV d, .string n] w fun e w' => e = .returned (.tuple #[.string (s.read n).1, .int .i64 (s.read n).2]) ∧ w = w' := by
  obtain ⟨L, rfl, hd, hf⟩ := h
  exact read_any L s n w hd hn
theorem down_dk (h : Dk w d s B) : Calls Try.prog 20 #[ptrV d] w fun e w' => e = .returned (.bool s.down) ∧ w = w' := by
  obtain ⟨L, rfl, hd, hf⟩ := h
  exact down_any L s w hd
theorem steps_dk (h : Dk w d s B) : Calls Try.prog 22 #[ptrV d] w fun e w' => e = .returned (.int .i64 s.steps) ∧ w = w' := by
  obtain ⟨L, rfl, hd, hf⟩ := h
  exact steps_any L s w hd
theorem fuse_dk (h : Dk w d s B) (hB : B ≤ w.heap.size) {n : Int} (hn : n < 9223372036854775808) : Calls Try.prog 21 #[ptrV d, .int .i64 n] w fun e w' => e = .returned (.tuple #[]) ∧ Dk w' d (s.fuseTo n) B ∧ Below B w w' := by
  obtain ⟨L, rfl, hd, hf⟩ := h
  refine (fuse_any L s n w hd hn).mono ?_
  rintro e w' ⟨rfl, h1, h2⟩
  refine ⟨rfl, ⟨L, rfl, h1, fun b hb => hf b ?_⟩, h2.below hB (fun b e => hf b (.inl e))⟩
  have e1 : (s.fuseTo n).dir = s.dir ∧ (s.fuseTo n).kept = s.kept ∧ (s.fuseTo n).waits = s.waits := by
    unfold DS.fuseTo
    split <;> exact ⟨rfl, rfl, rfl⟩
  exact foot_eq e1.1 e1.2.1 e1.2.2 hb
end
/-! ## awake -/
def bA : ByteArray := ⟨#[97]⟩
def xyz : ByteArray := ⟨#[120, 121, 122]⟩
def xy : ByteArray := ⟨#[120, 121]⟩
def nine : ByteArray := ⟨#[49, 50, 51, 52, 53, 54, 55, 56, 57]⟩
def aw1 : DS := ((newS 10).create bA).2
def aw2 : DS := aw1.dsync.2
def aw3 : DS := (aw2.append bA xyz).2
def aw4 : DS := aw3.crash [0, 2]
theorem aw_1 : ((newS 10).create bA).1 = 0 := by decide +kernel
theorem aw_2 : aw1.dsync.1 = 0 := by decide +kernel
theorem aw_3 : (aw2.append bA xyz).1 = 0 := by decide +kernel
theorem aw_4 : aw4.read bA = (xy, 0) := by decide +kernel
theorem aw_5 : (aw4.append bA nine).1 = 8 := by decide +kernel
theorem aw_s : aw1.steps = 1 ∧ aw2.steps = 2 ∧ aw3.steps = 3 ∧ aw4.steps = 3 := by decide +kernel
end Go.Proofs.Ytjgiohlkpenipaa
namespace Go.Proofs.Ytjgiohlkpenipaa
open Go.RowKit Go.Maps
set_option linter.unusedVariables false
set_option linter.unusedSimpArgs false

theorem foot_type {w : World} {L : Lay} {s : DS} (h : DAt w L s) {b : Nat} {cs : Array Value} {t : TypeId} {fz : Nat × Nat} (hb : w.heap[b]? = some (Obj.cells cs t fz)) (h1 : t ≠ 60) (h2 : t ≠ 66) (h3 : t ≠ 68) : ¬ Foot L s b := by
  rintro (rfl | rfl | rfl | ⟨i, hi, rfl⟩ | hg)
  · rw [h.cells] at hb
    simp at hb
    exact h1 hb.2.1.symm
  · obtain ⟨D, hD⟩ := h.dirm
    obtain ⟨es, cl, h4⟩ := hD.heap
    rw [h4] at hb
    cases hb
  · obtain ⟨D, hD⟩ := h.keptm
    obtain ⟨es, cl, h4⟩ := hD.heap
    rw [h4] at hb
    cases hb
  · have h4 : w.heap[L.bk i]? = _ := (h.file i hi).1
    rw [h4] at hb
    simp at hb
    exact h2 hb.2.1.symm
  · obtain ⟨_, cur, h4⟩ := own_blk h.row hg
    rw [h4] at hb
    simp at hb
    exact h3 hb.2.1.symm
theorem iv0 : Inv (newS 10) := Inv.new (by omega)
theorem iv1 : Inv aw1 := iv0.create (by decide +kernel) _
theorem iv2 : Inv aw2 := iv1.dsync (by rw [aw_s.1]; omega)
theorem iv3 : Inv aw3 := iv2.append (by rw [aw_s.2.1]; omega) _ (by decide +kernel)
theorem iv4 : Inv aw4 := iv3.crash _
theorem okA : okN bA := by unfold okN; decide +kernel
set_option maxRecDepth 100000 in
set_option maxHeartbeats 4000000 in
theorem awake_any (w : World) : Calls Try.prog 9 #[] w fun e w' => e = .returned (.bool true) ∧ Below w.heap.size w w' := by
  have HN := Lib.hid (new_dk 10 w (by omega))
  have hcr := @create_dk
  have HC := Lib.hid (fun w' d (h : Dk w' d (newS 10) w.heap.size) (hB : w.heap.size ≤ w'.heap.size) => create_dk h iv0 (by decide) hB okA)
  have HS := Lib.hid (fun w' d (h : Dk w' d aw1 w.heap.size) (hB : w.heap.size ≤ w'.heap.size) => syncdir_dk h iv1 (by rw [aw_s.1]; omega) hB)
  have HA := Lib.hid (fun w' d (h : Dk w' d aw2 w.heap.size) (hB : w.heap.size ≤ w'.heap.size) => append_dk (data := xyz) h iv2 (by rw [aw_s.2.1]; omega) hB okA (by decide +kernel))
  have HK := Lib.hid (fun w' d c (A : Option Addr) (h : Dk w' d aw3 w.heap.size) (hB : w.heap.size ≤ w'.heap.size) => crash_dk (cs := [0, 2]) (A := A) (c := c) h iv3 hB)
  have HRD := Lib.hid (fun w' d (h : Dk w' d aw4 w.heap.size) => read_dk h okA)
  have HL := Lib.hid (fun w' d (h : Dk w' d aw4 w.heap.size) (hB : w.heap.size ≤ w'.heap.size) => append_dk (data := nine) h iv4 (by rw [aw_s.2.2.2]; omega) hB okA (by decide +kernel))
  rw [aw_1] at HC
  rw [aw_2] at HS
  rw [aw_3] at HA
  rw [aw_4] at HRD
  rw [aw_5] at HL
  unfold bA xyz xy nine ptrV at *
  clear hcr
  go_enter Try.func9, Try.ntmps9
  go_wp2_with (fail)
  refine HN.out.mono ?_
  rintro r w1 ⟨d, rfl, hd1, hb1⟩
  have HD1 := Lib.hid hd1
  have HB1 := Lib.hid hb1
  clear hd1 hb1
  go_wp2_with (fail)
  refine (HC.out w1 d HD1.out HB1.out.size).mono ?_
  rintro r w2 ⟨rfl, hd2, hb2⟩
  have HD2 := Lib.hid hd2
  have HB2 := Lib.hid (HB1.out.trans (hb2.mono (Nat.le_refl _)))
  clear hd2 hb2
  go_wp2_with (fail)
  refine (HS.out w2 d HD2.out HB2.out.size).mono ?_
  rintro r w3 ⟨rfl, hd3, hb3⟩
  have HD3 := Lib.hid hd3
  have HB3 := Lib.hid (HB2.out.trans (hb3.mono (Nat.le_refl _)))
  clear hd3 hb3
  go_wp2_with (fail)
  refine (HA.out w3 d HD3.out HB3.out.size).mono ?_
  rintro r w4 ⟨rfl, hd4, hb4⟩
  have HD4 := Lib.hid hd4
  have HB4 := Lib.hid (HB3.out.trans (hb4.mono (Nat.le_refl _)))
  clear hd4 hb4
  go_wp2_with (fail)
  have hnw : (w4.alloc (Obj.cells #[.int .i64 0, .int .i64 2] 3)).heap[w4.heap.size]? = some (Obj.cells #[.int .i64 0, .int .i64 2] 3) := new_heap w4 _
  have hbW : Below w4.heap.size w4 (w4.alloc (Obj.cells #[.int .i64 0, .int .i64 2] 3)) := bl_alloc (Below.refl _ _) _
  have hrd : RdC (w4.alloc (Obj.cells #[.int .i64 0, .int .i64 2] 3)) (some ⟨w4.heap.size, 0, none⟩) [0, 2] := ⟨fun _ => ⟨w4.heap.size, 0, rfl, by simp, fun i hi => by
    rw [cell_of hnw]
    match i, hi with
    | 0, _ => rfl
    | 1, _ => rfl⟩, fun x hx => by
    simp at hx
    rcases hx with rfl | rfl <;> decide⟩
  have HKK := Lib.hid (HK.out (w4.alloc (Obj.cells #[.int .i64 0, .int .i64 2] 3)) d 2 (some ⟨w4.heap.size, 0, none⟩) (HD4.out.below hbW) (Nat.le_trans HB4.out.size hbW.size) hrd (Nat.le_refl _) (fun _ a ha => by
    cases ha
    exact ⟨by simp, fun L _ hL => foot_type hL hnw (by decide) (by decide) (by decide)⟩))
  have HBW := Lib.hid (HB4.out.trans (hbW.mono HB4.out.size))
  clear hnw hbW hrd
  generalize (w4.alloc (Obj.cells #[.int .i64 0, .int .i64 2] 3)) = w5 at *
  refine HKK.out.mono ?_
  rintro r w6 ⟨rfl, hd6, hb6⟩
  have HD6 := Lib.hid hd6
  have HB6 := Lib.hid (HBW.out.trans (hb6.mono (Nat.le_refl _)))
  clear hd6 hb6
  go_wp2_with (fail)
  refine (HRD.out w6 d HD6.out).mono ?_
  rintro r w' ⟨rfl, rfl⟩
  go_wp2_with (fail)
  refine (HL.out w6 d HD6.out HB6.out.size).mono ?_
  rintro r w7 ⟨rfl, _, hb7⟩
  go_wp2_with (fail)
  go_ret
  exact ⟨rfl, HB6.out.trans (hb7.mono (Nat.le_refl _))⟩
end Go.Proofs.Ytjgiohlkpenipaa
