/- Two disks side by side, and a fuse in plain words. Conditions: as each theorem states them. -/
import Derived.Test.YtjgiohlkpenipaaE0
namespace Go.Proofs.Ytjgiohlkpenipaa
open Go.RowKit Go.Maps
set_option linter.unusedVariables false
set_option linter.unusedSimpArgs false

/-- Two disks apart, both at B or above. -/
def Dk2 (w : World) (d f : Nat) (s t : DS) (B : Nat) : Prop := ∃ L M, L.d = d ∧ M.d = f ∧ DAt w L s ∧ DAt w M t ∧ (∀ b, Foot L s b → ¬ Foot M t b) ∧ (∀ b, Foot L s b → B ≤ b) ∧ ∀ b, Foot M t b → B ≤ b
theorem Dk2.symm {w : World} {d f : Nat} {s t : DS} {B : Nat} (h : Dk2 w d f s t B) : Dk2 w f d t s B := by
  obtain ⟨L, M, h1, h2, h3, h4, h5, h6, h7⟩ := h
  exact ⟨M, L, h2, h1, h4, h3, fun b hb hc => h5 b hc hb, h7, h6⟩
theorem Dk2.left {w : World} {d f : Nat} {s t : DS} {B : Nat} (h : Dk2 w d f s t B) : Dk w d s B := by
  obtain ⟨L, M, h1, h2, h3, h4, h5, h6, h7⟩ := h
  exact ⟨L, h1, h3, h6⟩
theorem Dk2.right {w : World} {d f : Nat} {s t : DS} {B : Nat} (h : Dk2 w d f s t B) : Dk w f t B := h.symm.left
theorem Dk2.below {w w' : World} {d f : Nat} {s t : DS} {B : Nat} (h : Dk2 w d f s t B) (k : Below w.heap.size w w') : Dk2 w' d f s t B := by
  obtain ⟨L, M, h1, h2, h3, h4, h5, h6, h7⟩ := h
  exact ⟨L, M, h1, h2, h3.below k, h4.below k, h5, h6, h7⟩
theorem Dk.two {w w' : World} {d f : Nat} {s t : DS} {B : Nat} (h : Dk w d s B) (hB : B ≤ w.heap.size) (k : Below w.heap.size w w') (h2 : Dk w' f t w.heap.size) : Dk2 w' d f s t B := by
  obtain ⟨L, e1, h3, h4⟩ := h
  obtain ⟨M, e2, h5, h6⟩ := h2
  exact ⟨L, M, e1, e2, h3.below k, h5, fun b hb hc => by have := h3.foot_lt hb; have := h6 b hc; omega, h4, fun b hb => by have := h6 b hb; omega⟩
theorem DoR.dk2 {w w' : World} {L M : Lay} {s s' t : DS} {r : Ending} {B : Nat} (h : DoR w L s s' r w') (hB : B ≤ w.heap.size) (hM : DAt w M t) (ha : ∀ b, Foot L s b → ¬ Foot M t b) (hf : ∀ b, Foot L s b → B ≤ b) (hg : ∀ b, Foot M t b → B ≤ b) : r = .returned (.tuple #[]) ∧ Dk2 w' L.d M.d s' t B ∧ Below B w w' := by
  obtain ⟨h1, L', h2, h3, h4, h5⟩ := h
  refine ⟨h1, ⟨L', M, h2, rfl, h3, hM.kw h4 (fun b hb hc => ha b hc hb), fun b hb hc => ?_, fun b hb => ?_, hg⟩, h4.below hB hf⟩
  · rcases h5 b hb with h | h
    · exact ha b h hc
    · have := hM.foot_lt hc
      omega
  · rcases h5 b hb with h | h
    · exact hf b h
    · omega
section
variable {w : World} {d f : Nat} {s t : DS} {B : Nat}
theorem does_dk2 (h : Dk2 w d f s t B) (iv : Inv s) (hs : s.steps < 1000000) (hB : B ≤ w.heap.size) (o : Oq) (name : ByteArray) (hn : okN o.nm) (hd : o.dt.size ≤ 2000) (hnn : o.n < 9223372036854775808) :
    Calls Try.prog 19 #[ptrV d, opV o, .string name] w fun r w' => r = .returned (.tuple #[]) ∧ Dk2 w' d f (s.does o name) t B ∧ Below B w w' := by
  obtain ⟨L, M, rfl, rfl, h3, h4, h5, h6, h7⟩ := h
  exact (does_any L s o name w h3 iv hs hn hd hnn).mono (fun r w' h => h.dk2 hB h4 h5 h6 h7)
theorem does_dk2r (h : Dk2 w d f s t B) (iv : Inv t) (hs : t.steps < 1000000) (hB : B ≤ w.heap.size) (o : Oq) (name : ByteArray) (hn : okN o.nm) (hd : o.dt.size ≤ 2000) (hnn : o.n < 9223372036854775808) :
    Calls Try.prog 19 #[ptrV f, opV o, .string name] w fun r w' => r = .returned (.tuple #[]) ∧ Dk2 w' d f s (t.does o name) B ∧ Below B w w' :=
  (does_dk2 h.symm iv hs hB o name hn hd hnn).mono (fun r w' h => ⟨h.1, h.2.1.symm, h.2.2⟩)
theorem fuse_dk2 (h : Dk2 w d f s t B) (hB : B ≤ w.heap.size) {n : Int} (hn : n < 9223372036854775808) : Calls Try.prog 21 #[ptrV d, .int .i64 n] w fun e w' => e = .returned (.tuple #[]) ∧ Dk2 w' d f (s.fuseTo n) t B ∧ Below B w w' := by
  obtain ⟨L, M, rfl, rfl, h3, h4, h5, h6, h7⟩ := h
  refine (fuse_any L s n w h3 hn).mono ?_
  rintro e w' ⟨rfl, h1, h2⟩
  have e1 : (s.fuseTo n).dir = s.dir ∧ (s.fuseTo n).kept = s.kept ∧ (s.fuseTo n).waits = s.waits := by
    unfold DS.fuseTo
    split <;> exact ⟨rfl, rfl, rfl⟩
  refine ⟨rfl, ⟨L, M, rfl, rfl, h1, h4.kw h2 (fun b hb e => h5 b (.inl e) hb), fun b hb => h5 b (foot_eq e1.1 e1.2.1 e1.2.2 hb), fun b hb => h6 b (foot_eq e1.1 e1.2.1 e1.2.2 hb), h7⟩, h2.below hB (fun b e => h6 b (.inl e))⟩
theorem same_dk2 (h : Dk2 w d f s t B) (iv : Inv s) (it : Inv t) (ha : Alike s t) : Calls Try.prog 23 #[ptrV d, ptrV f] w fun e w' => e = .returned (.bool true) ∧ Below w.heap.size w w' := by
  obtain ⟨L, M, rfl, rfl, h3, h4, h5, h6, h7⟩ := h
  exact same_any L M s t w h3 h4 iv it ha
end
/-! ## The fuse -/
/-- With a fuse of k. -/
def DS.lit (s : DS) (k : Nat) : DS := { s with fuse := k }
/-- Disk d, with a fuse of n, beside f, that has none. -/
def Lit (n : Nat) (d f : DS) : Prop := f.fuse = 0 ∧ f.down = false ∧ ((f.steps < n ∧ d = f.lit (n - f.steps)) ∨ (n ≤ f.steps ∧ d.down = true ∧ d.steps + 1 = n))
theorem lit_self {s : DS} (h : s.fuse = 0) : s.lit 0 = s := by unfold DS.lit; rw [← h]
theorem step_off {s : DS} {e : Int} {g : DS → DS} (h1 : s.down = false) (he : e ≠ 0) : (s.step e g).2 = s := by
  unfold DS.step
  rw [if_neg (by rw [h1]; decide), if_pos he]
theorem step_on {s : DS} {g : DS → DS} (h1 : s.down = false) (hf : s.fuse ≠ 1) : (s.step 0 g).2 = g s.tick := by
  unfold DS.step
  rw [if_neg (by rw [h1]; decide), if_neg (by decide), if_neg hf]
theorem step_out {s : DS} {g : DS → DS} (h1 : s.down = false) (hf : s.fuse = 1) : (s.step 0 g).2 = s.gone := by
  unfold DS.step
  rw [if_neg (by rw [h1]; decide), if_neg (by decide), if_pos hf]
theorem lit_step {n : Nat} {f : DS} {e : Int} {g : DS → DS} (h0 : f.fuse = 0) (h1 : f.down = false) (hlt : f.steps < n) (hg : ∀ s k, g (s.lit k) = (g s).lit k) (hs : (g f.tick).steps = f.steps + 1) (hd : (g f.tick).down = false) :
    Lit n ((f.lit (n - f.steps)).step e g).2 (f.step e g).2 := by
  have h2 : (f.lit (n - f.steps)).down = false := h1
  by_cases he : e = 0
  · subst he
    have hf : (g f.tick).fuse = 0 := by
      have e1 : f.tick.lit 0 = f.tick := by
        unfold DS.tick DS.lit
        rw [h0]
      rw [← e1, hg]
      rfl
    rw [step_on h1 (by omega)]
    by_cases hk : n - f.steps = 1
    · rw [step_out h2 hk]
      exact ⟨hf, hd, .inr ⟨by omega, rfl, by show f.steps + 1 = n; omega⟩⟩
    · rw [step_on h2 hk]
      refine ⟨hf, hd, .inl ⟨by omega, ?_⟩⟩
      have e1 : (f.lit (n - f.steps)).tick = f.tick.lit (n - f.steps - 1) := rfl
      rw [e1, hg, hs, Nat.sub_sub]
  · rw [step_off h1 he, step_off h2 he]
    exact ⟨h0, h1, .inl ⟨hlt, rfl⟩⟩
theorem down_step {s : DS} (h : s.down = true) (e : Int) (g : DS → DS) : (s.step e g).2 = s := by
  unfold DS.step
  rw [if_pos h]
theorem free_step {f : DS} {e : Int} {g : DS → DS} (h0 : f.fuse = 0) (h1 : f.down = false) (hg : ∀ s k, g (s.lit k) = (g s).lit k) (hs : (g f.tick).steps = f.steps + 1) (hd : (g f.tick).down = false) : (f.step e g).2.fuse = 0 ∧ (f.step e g).2.down = false ∧ f.steps ≤ (f.step e g).2.steps := by
  unfold DS.step
  rw [if_neg (by rw [h1]; decide)]
  by_cases he : e = 0
  · rw [if_neg (by simpa using he), if_neg (show ¬ f.fuse = 1 by omega)]
    refine ⟨?_, hd, ?_⟩
    · have e1 : f.tick.lit 0 = f.tick := by
        unfold DS.tick DS.lit
        rw [h0]
      show (g f.tick).fuse = 0
      rw [← e1, hg]
      rfl
    · show f.steps ≤ (g f.tick).steps
      omega
  · rw [if_pos (by simpa using he)]
    exact ⟨h0, h1, Nat.le_refl _⟩
theorem Lit.step {n : Nat} {d f : DS} (h : Lit n d f) {e e' : Int} {g g' : DS → DS} (hx : ∀ k, d = f.lit k → e' = e ∧ g' = g) (hg : ∀ s k, g (s.lit k) = (g s).lit k) (hs : (g f.tick).steps = f.steps + 1) (hd : (g f.tick).down = f.down) :
    Lit n (d.step e' g').2 (f.step e g).2 := by
  obtain ⟨h0, h1, ⟨h2, h3⟩ | ⟨h2, h3, h4⟩⟩ := h
  · obtain ⟨rfl, rfl⟩ := hx _ h3
    rw [h3]
    exact lit_step h0 h1 h2 hg hs (hd.trans h1)
  · rw [down_step h3]
    obtain ⟨a, b, c⟩ := free_step (e := e) h0 h1 hg hs (hd.trans h1)
    exact ⟨a, b, .inr ⟨by omega, h3, h4⟩⟩
theorem Lit.does {n : Nat} {d f : DS} (h : Lit n d f) (o : Oq) (name : ByteArray) (hk : o.k ≠ 7) : Lit n (d.does o name) (f.does o name) := by
  unfold DS.does
  split
  · exact h
  · split
    · exact h.step (fun k e => by subst e; exact ⟨rfl, rfl⟩) (fun _ _ => rfl) rfl rfl
    · split
      · exact h.step (fun k e => by subst e; exact ⟨rfl, rfl⟩) (fun _ _ => rfl) rfl rfl
      · split
        · exact h.step (fun k e => by subst e; exact ⟨rfl, rfl⟩) (fun _ _ => rfl) rfl rfl
        · split
          · exact h.step (fun k e => by subst e; exact ⟨rfl, rfl⟩) (fun _ _ => rfl) rfl rfl
          · split
            · exact h.step (fun k e => by subst e; exact ⟨rfl, rfl⟩) (fun _ _ => rfl) rfl rfl
            · split
              · exact h.step (fun k e => by subst e; exact ⟨rfl, rfl⟩) (fun _ _ => rfl) rfl rfl
              · exact h
theorem lit_new {n : Nat} (hn : 0 < n) (room : Nat) : Lit n ((newS room).fuseTo n) (newS room) := by
  refine ⟨rfl, rfl, .inl ⟨hn, ?_⟩⟩
  unfold DS.fuseTo
  rw [if_neg (by show ¬ (false = true); decide)]
  show _ = (newS room).lit n
  unfold DS.lit
  simp
theorem Lit.alike {n : Nat} {d f : DS} (h : Lit n d f) (hlt : f.steps < n) : d.steps = f.steps ∧ d.down = false ∧ Alike d f := by
  obtain ⟨h0, h1, ⟨h2, h3⟩ | ⟨h2, h3, h4⟩⟩ := h
  · subst h3
    exact ⟨rfl, h1, rfl, rfl, rfl⟩
  · omega
theorem Lit.out {n : Nat} {d f : DS} (h : Lit n d f) (hlt : ¬ f.steps < n) : d.steps + 1 = n ∧ d.down = true := by
  obtain ⟨h0, h1, ⟨h2, h3⟩ | ⟨h2, h3, h4⟩⟩ := h
  · omega
  · exact ⟨h4, h3⟩
theorem Lit.steps {n : Nat} {d f : DS} (h : Lit n d f) : d.steps ≤ f.steps := by
  obtain ⟨h0, h1, ⟨h2, h3⟩ | ⟨h2, h3, h4⟩⟩ := h
  · subst h3
    exact Nat.le_refl _
  · omega
end Go.Proofs.Ytjgiohlkpenipaa
