/- A file is made sure, in plain words. Conditions: as each theorem states them. -/
import Derived.Test.YtjgiohlkpenipaaC6
namespace Go.Proofs.Ytjgiohlkpenipaa
open Go.RowKit Go.Maps
set_option linter.unusedVariables false
set_option linter.unusedSimpArgs false

theorem Inv.does {s : DS} (h : Inv s) (hs : s.steps < 1000000) (o : Oq) (name : ByteArray) (hd : o.dt.size ≤ 2000) (hn : o.n < 9223372036854775808) : Inv (s.does o name) := by
  unfold DS.does
  split
  · exact h
  · split
    · exact h.create hs _
    · split
      · exact h.append hs _ hd
      · split
        · exact h.fsync hs _
        · split
          · exact h.dsync hs
          · split
            · exact h.rename hs _ _
            · split
              · exact h.remove hs _
              · split
                · exact h.fuseTo hn
                · exact h
theorem does_steps (s : DS) (o : Oq) (name : ByteArray) : (s.does o name).steps ≤ s.steps + 1 := by
  unfold DS.does
  split
  · exact Nat.le_succ _
  · split
    · exact step_steps s _ _ rfl
    · split
      · exact step_steps s _ _ rfl
      · split
        · exact step_steps s _ _ rfl
        · split
          · exact step_steps s _ _ rfl
          · split
            · exact step_steps s _ _ rfl
            · split
              · exact step_steps s _ _ rfl
              · split
                · unfold DS.fuseTo
                  split <;> exact Nat.le_succ _
                · exact Nat.le_succ _
/-- File i is that of name n alone, here and behind a crash, and is f. -/
structure Safe (s : DS) (n : ByteArray) (i : Nat) (f : Fl) : Prop where
  d : (n, i) ∈ s.dir
  d1 : ∀ m, (m, i) ∈ s.dir → m = n
  k : (n, i) ∈ s.kept
  k1 : ∀ m, (m, i) ∈ s.kept → m = n
  w : ∀ c ∈ s.waits, c.frm ≠ n ∧ c.to ≠ n ∧ (c.to ≠ ByteArray.empty → c.fi ≠ i)
  fl : s.file i = f
  lt : i < s.files.length
theorem alt_safe {l : Dir} {c : Ch} {n : ByteArray} {i : Nat} (h : (n, i) ∈ l) (h1 : ∀ m, (m, i) ∈ l → m = n) (hc : c.frm ≠ n ∧ c.to ≠ n ∧ (c.to ≠ ByteArray.empty → c.fi ≠ i)) : (n, i) ∈ alt l c ∧ ∀ m, (m, i) ∈ alt l c → m = n := by
  refine ⟨?_, fun m hm => ?_⟩
  · have h2 : (n, i) ∈ (if c.frm = ByteArray.empty then l else wo l c.frm) := by
      split
      · exact h
      · exact mem_wo.2 ⟨h, fun e => hc.1 e.symm⟩
    unfold alt
    dsimp only
    split
    · exact h2
    · exact (wi_perm _ _ _).mem_iff.2 (List.mem_cons_of_mem _ (mem_wo.2 ⟨h2, fun e => hc.2.1 e.symm⟩))
  · rcases mem_alt hm with h2 | ⟨h2, h3⟩
    · exact h1 m h2
    · exact absurd h3 (hc.2.2 h2)
theorem alts_safe {l : Dir} {cs : List Ch} {n : ByteArray} {i : Nat} (h : (n, i) ∈ l) (h1 : ∀ m, (m, i) ∈ l → m = n) (hc : ∀ c ∈ cs, c.frm ≠ n ∧ c.to ≠ n ∧ (c.to ≠ ByteArray.empty → c.fi ≠ i)) : (n, i) ∈ alts l cs ∧ ∀ m, (m, i) ∈ alts l cs → m = n := by
  induction cs generalizing l with
  | nil => exact ⟨h, h1⟩
  | cons c cs ih =>
    obtain ⟨h2, h3⟩ := alt_safe h h1 (hc c (List.mem_cons_self ..))
    exact ih h2 h3 (fun d hd => hc d (List.mem_cons_of_mem _ hd))
section
variable {s : DS} {n : ByteArray} {i : Nat} {f : Fl}
theorem Safe.as (h : Safe s n i f) {t : DS} (h1 : t.dir = s.dir) (h2 : t.kept = s.kept) (h3 : t.waits = s.waits) (h4 : t.files = s.files) : Safe t n i f := by
  have e : t.file i = s.file i := by unfold DS.file; rw [h4]
  exact ⟨h1 ▸ h.d, h1 ▸ h.d1, h2 ▸ h.k, h2 ▸ h.k1, h3 ▸ h.w, e ▸ h.fl, h4 ▸ h.lt⟩
theorem Safe.step (h : Safe s n i f) {e : Int} {g : DS → DS} (hg : e = 0 → Safe (g s.tick) n i f) : Safe (s.step e g).2 n i f := by
  unfold DS.step
  split
  · exact h
  · split
    · exact h
    · rename_i h2
      split
      · exact h.as rfl rfl rfl rfl
      · exact hg (Classical.not_not.1 h2)
theorem Safe.chg (h : Safe s n i f) {c : Ch} (hc : c.frm ≠ n ∧ c.to ≠ n ∧ (c.to ≠ ByteArray.empty → c.fi ≠ i)) : Safe (s.chg c) n i f := by
  obtain ⟨h1, h2⟩ := alt_safe h.d h.d1 hc
  refine ⟨h1, h2, h.k, h.k1, fun d hd => ?_, h.fl, h.lt⟩
  rcases List.mem_append.1 hd with hd | hd
  · exact h.w d hd
  · obtain rfl := List.mem_singleton.1 hd
    exact hc
theorem Safe.setF (h : Safe s n i f) {j : Nat} (hj : j ≠ i) (g : Fl) : Safe (s.setF j g) n i f := by
  by_cases hl : j < s.files.length
  · exact ⟨h.d, h.d1, h.k, h.k1, h.w, by rw [file_set hl, if_neg (fun e => hj e.symm)]; exact h.fl, by show i < (s.files.set j g).length; rw [List.length_set]; exact h.lt⟩
  · rw [setF_ge hl]; exact h
theorem Safe.tick (h : Safe s n i f) : Safe s.tick n i f := h.as rfl rfl rfl rfl
theorem Safe.grow (h : Safe s n i f) : Safe s.grow n i f := ⟨h.d, h.d1, h.k, h.k1, h.w, by rw [file_grow]; exact h.fl, by show i < (s.files ++ [zeroF]).length; rw [List.length_append]; have := h.lt; omega⟩
theorem Safe.other (h : Safe s n i f) {m : ByteArray} (hm : m ≠ n) {j : Nat} (hl : look s.dir m = some j) : j ≠ i := fun e => hm (h.d1 m (e ▸ look_some hl))
theorem at_some {m : ByteArray} {j : Nat} (hl : look s.dir m = some j) : s.at_ m = j := by unfold DS.at_; rw [hl]; rfl
theorem Safe.does (h : Safe s n i f) (hn : n ≠ ByteArray.empty) (o : Oq) : Safe (s.does o n) n i f := by
  unfold DS.does
  split
  · exact h
  · rename_i hh
    have h1 : o.nm ≠ n := fun e => hh (.inl e)
    have h2 : o.k = 5 → o.dt ≠ n := fun hk e => hh (.inr ⟨hk, e⟩)
    split
    · exact h.step (fun he => h.tick.grow.chg ⟨fun e => hn e.symm, h1, fun _ e => by
        have := h.lt
        have e : s.files.length = i := e
        omega⟩)
    · split
      · refine h.step (fun he => ?_)
        obtain ⟨j, hj⟩ := ag_append he
        rw [at_some hj]
        exact h.tick.setF (h.other h1 hj) _
      · split
        · refine h.step (fun he => ?_)
          obtain ⟨j, hj⟩ := ag_there he
          rw [at_some hj]
          exact h.tick.setF (h.other h1 hj) _
        · split
          · exact h.step (fun he => ⟨h.d, h.d1, h.d, h.d1, (fun c hc => by cases hc), h.fl, h.lt⟩)
          · split
            · rename_i hk
              refine h.step (fun he => ?_)
              obtain ⟨ht, j, hj⟩ := ag_rename he
              rw [at_some hj]
              exact h.tick.chg ⟨h1, h2 hk, fun _ => h.other h1 hj⟩
            · split
              · refine h.step (fun he => ?_)
                exact h.tick.chg ⟨h1, fun e => hn e.symm, fun e => absurd rfl e⟩
              · split
                · unfold DS.fuseTo
                  split
                  · exact h
                  · exact h.as rfl rfl rfl rfl
                · exact h
end
/-- A cut of a directory leaves a file that it has under one name alone cut once, or as it was. -/
theorem cutAll_one (n : ByteArray) (i : Nat) : ∀ (l : Dir) (s : DS) (cs : List Int), i < s.files.length → (∀ m, (m, i) ∈ l → m = n) → (l.map Prod.fst).Nodup →
    ((n, i) ∉ l ∧ (cutAll l s cs).1.file i = s.file i) ∨ ((n, i) ∈ l ∧ ∃ cs', (cutAll l s cs).1.file i = (cutF cs' (s.file i)).1)
  | [], s, cs, hi, h1, hnd => .inl ⟨by simp, rfl⟩
  | (m, j) :: l, s, cs, hi, h1, hnd => by
    rw [List.map_cons, List.nodup_cons] at hnd
    have hi' : i < (s.setF j (cutF cs (s.file j)).1).files.length := by show i < (s.files.set j _).length; rw [List.length_set]; exact hi
    have ih := cutAll_one n i l (s.setF j (cutF cs (s.file j)).1) (cutF cs (s.file j)).2 hi' (fun q hq => h1 q (List.mem_cons_of_mem _ hq)) hnd.2
    by_cases hj : j = i
    · subst hj
      have hm : m = n := h1 m (List.mem_cons_self ..)
      subst hm
      have hno : (m, j) ∉ l := fun hx => hnd.1 (List.mem_map.2 ⟨_, hx, rfl⟩)
      rcases ih with ⟨_, h2⟩ | ⟨h2, _⟩
      · refine .inr ⟨List.mem_cons_self .., cs, ?_⟩
        show (cutAll l (s.setF j (cutF cs (s.file j)).1) (cutF cs (s.file j)).2).1.file j = _
        rw [h2, file_set hi, if_pos rfl]
      · exact absurd h2 hno
    · have hf : (s.setF j (cutF cs (s.file j)).1).file i = s.file i := by
        by_cases hl : j < s.files.length
        · rw [file_set hl, if_neg (fun e => hj e.symm)]
        · rw [setF_ge hl]
      rw [hf] at ih
      have hne : ((n, i) : ByteArray × Nat) ≠ (m, j) := fun e => hj (by cases e; rfl)
      rcases ih with ⟨h2, h3⟩ | ⟨h2, h3⟩
      · exact .inl ⟨fun hx => by
          rcases List.mem_cons.1 hx with e | e
          · exact hne e
          · exact h2 e, h3⟩
      · exact .inr ⟨List.mem_cons_of_mem _ h2, h3⟩
theorem srt.nd {l : Dir} (h : srt l) : (l.map Prod.fst).Nodup := List.pairwise_map.2 (List.Pairwise.imp (fun {a b} hab e => by rw [e] at hab; exact lt_irr _ hab) h)
/-- A file that is safe has, behind a crash, what was sure of it at least, and what it had at most. -/
theorem Safe.crash {s : DS} {n : ByteArray} {i : Nat} {f : Fl} (h : Safe s n i f) (iv : Inv s) (cs : List Int) : ∃ k, f.sure ≤ k ∧ k ≤ f.data.size ∧ (s.crash cs).read n = (f.data.extract 0 k, 0) ∧ (s.crash cs).down = false := by
  have hsu : f.sure ≤ f.data.size := h.fl ▸ iv.ok.su i
  unfold DS.crash
  generalize pick cs (s.waits.length + 1) = q
  obtain ⟨a1, a2⟩ := alts_safe h.k h.k1 (cs := s.waits.take q) (fun c hc => h.w c (List.mem_of_mem_take hc))
  have hs : srt (s.keep q).kept := alts_srt iv.sk _
  have h1 := cutAll_one n i (s.keep q).kept (s.keep q) cs.tail h.lt a2 hs.nd
  obtain ⟨e1, _, _, _⟩ := cutAll_dir (s.keep q).kept (s.keep q) cs.tail
  generalize (cutAll (s.keep q).kept (s.keep q) cs.tail).1 = t at *
  rcases h1 with ⟨h1, _⟩ | ⟨_, cs', h2⟩
  · exact absurd a1 h1
  · have h3 : (s.keep q).file i = f := h.fl
    rw [h3] at h2
    have hlk : look t.boot.dir n = some i := by
      show look t.kept n = some i
      rw [e1]
      exact look_mem hs.nd a1
    have hrd : t.boot.read n = ((t.file i).data, 0) := by
      unfold DS.read
      rw [if_neg (by show ¬ false = true; decide), hlk]
      rfl
    rw [hrd, h2]
    unfold cutF
    split
    · rename_i hlt
      have := pick_lt cs' (n := f.data.size - f.sure + 1) (by omega)
      exact ⟨f.sure + pick cs' (f.data.size - f.sure + 1), by omega, by omega, rfl, rfl⟩
    · refine ⟨f.data.size, hsu, Nat.le_refl _, ?_, rfl⟩
      dsimp only
      rw [ByteArray.extract_zero_size]
/-- Nothing has a name, and no power goes. -/
def Clear (s : DS) (n : ByteArray) : Prop := s.fuse = 0 ∧ s.down = false ∧ ∀ i, (n, i) ∉ s.dir
theorem Clear.step {s : DS} {n : ByteArray} (h : Clear s n) {e : Int} {g : DS → DS} (hg : e = 0 → Clear (g s.tick) n) : Clear (s.step e g).2 n := by
  unfold DS.step
  rw [if_neg (by rw [h.2.1]; decide)]
  split
  · exact h
  · rename_i h2
    rw [if_neg (by rw [h.1]; decide)]
    exact hg (Classical.not_not.1 h2)
theorem Clear.tick {s : DS} {n : ByteArray} (h : Clear s n) : Clear s.tick n := ⟨by show s.fuse - 1 = 0; rw [h.1], h.2.1, h.2.2⟩
theorem Clear.chg {s : DS} {n : ByteArray} (h : Clear s n) {c : Ch} (hc : c.to ≠ n) : Clear (s.chg c) n := by
  refine ⟨h.1, h.2.1, fun i hi => ?_⟩
  have hi : (n, i) ∈ alt s.dir c := hi
  have h1 : ∀ p, p ∈ (if c.frm = ByteArray.empty then s.dir else wo s.dir c.frm) → p ∈ s.dir := fun p hp => by
    split at hp
    · exact hp
    · exact (mem_wo.1 hp).1
  unfold alt at hi
  dsimp only at hi
  split at hi
  · exact h.2.2 i (h1 _ hi)
  · rcases List.mem_cons.1 ((wi_perm _ _ _).mem_iff.1 hi) with e | hi
    · cases e
      exact hc rfl
    · exact h.2.2 i (h1 _ (mem_wo.1 hi).1)
theorem Clear.does {s : DS} {n : ByteArray} (h : Clear s n) (hn : n ≠ ByteArray.empty) (o : Oq) (h7 : o.k ≠ 7) : Clear (s.does o n) n := by
  unfold DS.does
  split
  · exact h
  · rename_i hh
    have h1 : o.nm ≠ n := fun e => hh (.inl e)
    have h2 : o.k = 5 → o.dt ≠ n := fun hk e => hh (.inr ⟨hk, e⟩)
    split
    · exact h.step (fun he => Clear.chg (s := s.tick.grow) ⟨h.tick.1, h.2.1, h.2.2⟩ h1)
    · split
      · exact h.step (fun he => ⟨h.tick.1, h.2.1, h.2.2⟩)
      · split
        · exact h.step (fun he => ⟨h.tick.1, h.2.1, h.2.2⟩)
        · split
          · exact h.step (fun he => ⟨h.tick.1, h.2.1, h.2.2⟩)
          · split
            · rename_i hk
              exact h.step (fun he => h.tick.chg (h2 hk))
            · split
              · exact h.step (fun he => h.tick.chg (fun e => hn e.symm))
              · first | exact h | (split; rename_i hk; exact absurd hk h7; exact h)
end Go.Proofs.Ytjgiohlkpenipaa
namespace Go.Proofs.Ytjgiohlkpenipaa
open Go.RowKit Go.Maps
set_option linter.unusedVariables false
set_option linter.unusedSimpArgs false

def bK : ByteArray := ⟨#[107, 101, 112, 116]⟩
theorem namedK : named bK := by decide +kernel
theorem okK : okN bK := okN_named namedK
theorem neK : bK ≠ ByteArray.empty := named_ne namedK
theorem step_run {s : DS} (hd : s.down = false) (hf : s.fuse = 0) (f : DS → DS) : s.step 0 f = (0, f s.tick) := by
  unfold DS.step
  rw [if_neg (by rw [hd]; decide), if_neg (by simp), if_neg (by rw [hf]; decide)]
theorem step_room (s : DS) (e : Int) (f : DS → DS) (hf : (f s.tick).room = s.room) : (s.step e f).2.room = s.room := by
  unfold DS.step
  split
  · rfl
  · split
    · rfl
    · split
      · rfl
      · exact hf
theorem does_room (s : DS) (o : Oq) (name : ByteArray) : (s.does o name).room = s.room := by
  unfold DS.does
  split
  · rfl
  · split
    · exact step_room s _ _ rfl
    · split
      · exact step_room s _ _ rfl
      · split
        · exact step_room s _ _ rfl
        · split
          · exact step_room s _ _ rfl
          · split
            · exact step_room s _ _ rfl
            · split
              · exact step_room s _ _ rfl
              · split
                · unfold DS.fuseTo
                  split <;> rfl
                · rfl
theorem used_small {s : DS} (iv : Inv s) (hs : s.steps ≤ 200) : s.used ≤ 80000000 := by
  unfold DS.used
  split
  · omega
  · have h1 := sum_le (fun i => (s.file i).data.size) (2000 * 200) s.dir (fun p _ => by
      have := iv.ok.fs p.2
      omega)
    have h2 := iv.ok.dl
    omega
theorem append_run {s : DS} (iv : Inv s) (hs : s.steps ≤ 200) (hr : s.room = rm) (hd : s.down = false) (hf : s.fuse = 0) {n data : ByteArray} {i : Nat} (hl : look s.dir n = some i) (hds : data.size ≤ 2000) :
    s.append n data = (0, s.tick.setF i ⟨(s.file i).data ++ data, (s.file i).sure⟩) := by
  have h0 := used_small iv hs
  have h1 : agAppend s n data = 0 := by
    unfold agAppend
    rw [if_neg (by rw [hl]; simp), hr, if_neg (by unfold rm; omega)]
  unfold DS.append
  rw [h1, step_run hd hf, at_some hl]
  rfl
/-- The chain of calls by which a file is made sure, then goes on. -/
theorem sure_chain {s : DS} (iv : Inv s) (hs : s.steps ≤ 120) (hr : s.room = rm) (hc : Clear s bK) (hlt : ∀ i, s.has i → i < s.files.length) {data more : ByteArray} (hdata : data.size ≤ 2000) (hmore : more.size ≤ 2000) :
    ∃ t1 t2 t3 t4 t5 i, s.create bK = (0, t1) ∧ t1.append bK data = (0, t2) ∧ t2.fsync bK = (0, t3) ∧ t3.dsync = (0, t4) ∧ t4.append bK more = (0, t5) ∧ Inv t1 ∧ Inv t2 ∧ Inv t3 ∧ Inv t4 ∧ Inv t5 ∧
      t1.steps ≤ 200 ∧ t2.steps ≤ 200 ∧ t3.steps ≤ 200 ∧ t4.steps ≤ 200 ∧ t5.steps ≤ 200 ∧ Safe t5 bK i ⟨data ++ more, data.size⟩ := by
  obtain ⟨hfu, hdn, hno⟩ := hc
  have hl0 : look s.dir bK = none := by
    cases h : look s.dir bK with
    | none => rfl
    | some i => exact absurd (look_some h) (hno i)
  have hag : agCreate s bK = 0 := by
    unfold agCreate
    rw [if_neg (by simpa using namedK), if_neg (by simp [hl0]), if_neg (by have := iv.ok.dl; omega)]
  obtain ⟨i, hi⟩ : ∃ i, s.files.length = i := ⟨_, rfl⟩
  have hcr : s.create bK = (0, s.tick.grow.chg ⟨ByteArray.empty, bK, i⟩) := by
    unfold DS.create
    rw [hag, step_run hdn hfu]
    show (0, s.tick.grow.chg ⟨ByteArray.empty, bK, s.files.length⟩) = _
    rw [hi]
  obtain ⟨t1, ht1⟩ : ∃ t1, s.tick.grow.chg ⟨ByteArray.empty, bK, i⟩ = t1 := ⟨_, rfl⟩
  rw [ht1] at hcr
  have i1 : Inv t1 := by have := iv.create (by omega) bK; rwa [hcr] at this
  have s1 : t1.steps = s.steps + 1 := by rw [← ht1]; rfl
  have r1 : t1.room = rm := by rw [← ht1]; exact hr
  have d1 : t1.down = false := by rw [← ht1]; exact hdn
  have f1 : t1.fuse = 0 := by rw [← ht1]; show s.fuse - 1 = 0; rw [hfu]
  have m1 : (bK, i) ∈ t1.dir := by
    rw [← ht1]
    show (bK, i) ∈ alt s.dir ⟨ByteArray.empty, bK, i⟩
    unfold alt
    dsimp only
    rw [if_neg neK]
    exact (wi_perm _ _ _).mem_iff.2 (List.mem_cons_self ..)
  have o1 : ∀ m, (m, i) ∈ t1.dir → m = bK := fun m hm => by
    rw [← ht1] at hm
    have hm : (m, i) ∈ alt s.dir ⟨ByteArray.empty, bK, i⟩ := hm
    unfold alt at hm
    dsimp only at hm
    rw [if_neg neK, if_pos rfl] at hm
    rcases List.mem_cons.1 ((wi_perm _ _ _).mem_iff.1 hm) with e | hm
    · cases e; rfl
    · have := hlt i (.inl ⟨m, (mem_wo.1 hm).1⟩)
      omega
  have k1 : look t1.dir bK = some i := look_mem i1.sd.nd m1
  have z1 : t1.file i = zeroF := by
    rw [← ht1]
    show s.tick.grow.file i = _
    rw [file_grow]
    show s.file i = _
    unfold DS.file
    rw [List.getD_eq_getElem?_getD, List.getElem?_eq_none (by omega)]
    rfl
  have l1 : i < t1.files.length := by
    rw [← ht1]
    show i < (s.files ++ [zeroF]).length
    rw [List.length_append, List.length_singleton]
    omega
  clear ht1
  have ha := append_run i1 (by omega) r1 d1 f1 k1 hdata
  rw [z1] at ha
  have ha : t1.append bK data = (0, t1.tick.setF i ⟨data, 0⟩) := by
    rw [ha]
    show (0, t1.tick.setF i ⟨ByteArray.empty ++ data, 0⟩) = _
    rw [emp]
  obtain ⟨t2, ht2⟩ : ∃ t2, t1.tick.setF i ⟨data, 0⟩ = t2 := ⟨_, rfl⟩
  rw [ht2] at ha
  have i2 : Inv t2 := by have := i1.append (by omega) bK hdata; rwa [ha] at this
  have z2 : t2.file i = ⟨data, 0⟩ := by rw [← ht2, file_set (by exact l1), if_pos rfl]
  have k2 : look t2.dir bK = some i := by rw [← ht2]; exact k1
  have hsy : t2.fsync bK = (0, t2.tick.setF i ⟨data, data.size⟩) := by
    unfold DS.fsync
    have hg : agThere t2 bK = 0 := by unfold agThere; rw [if_neg (by rw [k2]; simp)]
    rw [hg, step_run (by rw [← ht2]; exact d1) (by rw [← ht2]; show t1.fuse - 1 = 0; rw [f1]), at_some k2]
    show (0, t2.tick.setF i ⟨(t2.file i).data, (t2.file i).data.size⟩) = _
    rw [z2]
  have e2 : t2.dir = t1.dir ∧ t2.steps = t1.steps + 1 ∧ t2.room = t1.room ∧ t2.down = false ∧ t2.fuse = 0 ∧ i < t2.files.length := by
    rw [← ht2]
    exact ⟨rfl, rfl, rfl, d1, by show t1.fuse - 1 = 0; rw [f1], by show i < (t1.files.set i _).length; rw [List.length_set]; exact l1⟩
  clear ht2
  obtain ⟨t3, ht3⟩ : ∃ t3, t2.tick.setF i ⟨data, data.size⟩ = t3 := ⟨_, rfl⟩
  rw [ht3] at hsy
  have i3 : Inv t3 := by have := i2.fsync (by omega) bK; rwa [hsy] at this
  have z3 : t3.file i = ⟨data, data.size⟩ := by rw [← ht3, file_set (by exact e2.2.2.2.2.2), if_pos rfl]
  have e3 : t3.dir = t1.dir ∧ t3.steps = t1.steps + 2 ∧ t3.room = t1.room ∧ t3.down = false ∧ t3.fuse = 0 ∧ i < t3.files.length := by
    obtain ⟨q1, q2, q3, q4, q5, q6⟩ := e2
    rw [← ht3]
    exact ⟨q1, by show t2.steps + 1 = _; omega, q3, q4, by show t2.fuse - 1 = 0; rw [q5], by show i < (t2.files.set i _).length; rw [List.length_set]; exact q6⟩
  clear ht3
  obtain ⟨w1, w2, w3, w4, w5, w6⟩ := e3
  have hdy : t3.dsync = (0, t3.tick.sync) := by
    unfold DS.dsync
    rw [step_run w4 w5]
  obtain ⟨t4, ht4⟩ : ∃ t4, t3.tick.sync = t4 := ⟨_, rfl⟩
  rw [ht4] at hdy
  have i4 : Inv t4 := by have := i3.dsync (by omega); rwa [hdy] at this
  have e4 : t4.dir = t1.dir ∧ t4.kept = t1.dir ∧ t4.waits = [] ∧ t4.steps = t1.steps + 3 ∧ t4.room = rm ∧ t4.down = false ∧ t4.fuse = 0 ∧ i < t4.files.length ∧ t4.file i = ⟨data, data.size⟩ := by
    rw [← ht4]
    exact ⟨w1, w1, rfl, by show t3.steps + 1 = _; omega, w3.trans r1, w4, by show t3.fuse - 1 = 0; rw [w5], w6, z3⟩
  clear ht4
  obtain ⟨v1, v2, v3, v4, v5, v6, v7, v8, v9⟩ := e4
  have hm := append_run i4 (by omega) v5 v6 v7 (n := bK) (i := i) (by rw [v1]; exact k1) hmore
  rw [v9] at hm
  obtain ⟨t5, ht5⟩ : ∃ t5, t4.tick.setF i ⟨data ++ more, data.size⟩ = t5 := ⟨_, rfl⟩
  have hm : t4.append bK more = (0, t5) := by rw [hm, ← ht5]
  have i5 : Inv t5 := by have := i4.append (by omega) bK hmore; rwa [hm] at this
  have s5 : t5.steps = t4.steps + 1 := by rw [← ht5]; rfl
  refine ⟨t1, t2, t3, t4, t5, i, hcr, ha, hsy, hdy, hm, i1, i2, i3, i4, i5, by omega, by have := e2.2.1; omega, by omega, by omega, by omega, ?_⟩
  rw [← ht5]
  refine ⟨?_, ?_, ?_, ?_, ?_, ?_, ?_⟩
  · show (bK, i) ∈ t4.dir
    rw [v1]; exact m1
  · show ∀ m, (m, i) ∈ t4.dir → m = bK
    rw [v1]; exact o1
  · show (bK, i) ∈ t4.kept
    rw [v2]; exact m1
  · show ∀ m, (m, i) ∈ t4.kept → m = bK
    rw [v2]; exact o1
  · show ∀ c ∈ t4.waits, _
    rw [v3]
    intro c hc
    cases hc
  · rw [file_set (by exact v8), if_pos rfl]
  · show i < (t4.files.set i _).length
    rw [List.length_set]; exact v8
end Go.Proofs.Ytjgiohlkpenipaa
