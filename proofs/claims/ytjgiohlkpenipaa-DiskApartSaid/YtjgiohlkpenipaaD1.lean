/- A file is made sure, in plain words. Conditions: as each theorem states them. -/
import Derived.Test.YtjgiohlkpenipaaD0
namespace Go.Proofs.Ytjgiohlkpenipaa
open Go.RowKit Go.Maps
set_option linter.unusedVariables false
set_option linter.unusedSimpArgs false

def bK : ByteArray := ⟨#[107, 101, 112, 116]⟩
theorem namedK : named bK := by decide +kernel
theorem okK : okN bK := okN_named namedK
theorem neK : bK ≠ ByteArray.empty := named_ne namedK
theorem step_run {s : DS} (hd : s.down = false) (hf : s.fuse = 0) (f : DS → DS) : s.step 0 f = (0, f s.tick) := by
  unfold DS.step
  rw [if_neg (by rw [hd]; decide), if_neg (by simp), if_neg (by rw [hf]; decide)]
theorem step_room (s : DS) (e : Int) (f : DS → DS) (hf : (f s.tick).room = s.room) : (s.step e f).2.room = s.room := by
  unfold DS.step
  split
  · rfl
  · split
    · rfl
    · split
      · rfl
      · exact hf
theorem does_room (s : DS) (o : Oq) (name : ByteArray) : (s.does o name).room = s.room := by
  unfold DS.does
  split
  · rfl
  · split
    · exact step_room s _ _ rfl
    · split
      · exact step_room s _ _ rfl
      · split
        · exact step_room s _ _ rfl
        · split
          · exact step_room s _ _ rfl
          · split
            · exact step_room s _ _ rfl
            · split
              · exact step_room s _ _ rfl
              · split
                · unfold DS.fuseTo
                  split <;> rfl
                · rfl
theorem used_small {s : DS} (iv : Inv s) (hs : s.steps ≤ 200) : s.used ≤ 80000000 := by
  unfold DS.used
  split
  · omega
  · have h1 := sum_le (fun i => (s.file i).data.size) (2000 * 200) s.dir (fun p _ => by
      have := iv.ok.fs p.2
      omega)
    have h2 := iv.ok.dl
    omega
theorem append_run {s : DS} (iv : Inv s) (hs : s.steps ≤ 200) (hr : s.room = rm) (hd : s.down = false) (hf : s.fuse = 0) {n data : ByteArray} {i : Nat} (hl : look s.dir n = some i) (hds : data.size ≤ 2000) :
    s.append n data = (0, s.tick.setF i ⟨(s.file i).data ++ data, (s.file i).sure⟩) := by
  have h0 := used_small iv hs
  have h1 : agAppend s n data = 0 := by
    unfold agAppend
    rw [if_neg (by rw [hl]; simp), hr, if_neg (by unfold rm; omega)]
  unfold DS.append
  rw [h1, step_run hd hf, at_some hl]
  rfl
/-- The chain of calls by which a file is made sure, then goes on. -/
theorem sure_chain {s : DS} (iv : Inv s) (hs : s.steps ≤ 120) (hr : s.room = rm) (hc : Clear s bK) (hlt : ∀ i, s.has i → i < s.files.length) {data more : ByteArray} (hdata : data.size ≤ 2000) (hmore : more.size ≤ 2000) :
    ∃ t1 t2 t3 t4 t5 i, s.create bK = (0, t1) ∧ t1.append bK data = (0, t2) ∧ t2.fsync bK = (0, t3) ∧ t3.dsync = (0, t4) ∧ t4.append bK more = (0, t5) ∧ Inv t1 ∧ Inv t2 ∧ Inv t3 ∧ Inv t4 ∧ Inv t5 ∧
      t1.steps ≤ 200 ∧ t2.steps ≤ 200 ∧ t3.steps ≤ 200 ∧ t4.steps ≤ 200 ∧ t5.steps ≤ 200 ∧ Safe t5 bK i ⟨data ++ more, data.size⟩ := by
  obtain ⟨hfu, hdn, hno⟩ := hc
  have hl0 : look s.dir bK = none := by
    cases h : look s.dir bK with
    | none => rfl
    | some i => exact absurd (look_some h) (hno i)
  have hag : agCreate s bK = 0 := by
    unfold agCreate
    rw [if_neg (by simpa using namedK), if_neg (by simp [hl0]), if_neg (by have := iv.ok.dl; omega)]
  obtain ⟨i, hi⟩ : ∃ i, s.files.length = i := ⟨_, rfl⟩
  have hcr : s.create bK = (0, s.tick.grow.chg ⟨ByteArray.empty, bK, i⟩) := by
    unfold DS.create
    rw [hag, step_run hdn hfu]
    show (0, s.tick.grow.chg ⟨ByteArray.empty, bK, s.files.length⟩) = _
    rw [hi]
  obtain ⟨t1, ht1⟩ : ∃ t1, s.tick.grow.chg ⟨ByteArray.empty, bK, i⟩ = t1 := ⟨_, rfl⟩
  rw [ht1] at hcr
  have i1 : Inv t1 := by have := iv.create (by omega) bK; rwa [hcr] at this
  have s1 : t1.steps = s.steps + 1 := by rw [← ht1]; rfl
  have r1 : t1.room = rm := by rw [← ht1]; exact hr
  have d1 : t1.down = false := by rw [← ht1]; exact hdn
  have f1 : t1.fuse = 0 := by rw [← ht1]; show s.fuse - 1 = 0; rw [hfu]
  have m1 : (bK, i) ∈ t1.dir := by
    rw [← ht1]
    show (bK, i) ∈ alt s.dir ⟨ByteArray.empty, bK, i⟩
    unfold alt
    dsimp only
    rw [if_neg neK]
    exact (wi_perm _ _ _).mem_iff.2 (List.mem_cons_self ..)
  have o1 : ∀ m, (m, i) ∈ t1.dir → m = bK := fun m hm => by
    rw [← ht1] at hm
    have hm : (m, i) ∈ alt s.dir ⟨ByteArray.empty, bK, i⟩ := hm
    unfold alt at hm
    dsimp only at hm
    rw [if_neg neK, if_pos rfl] at hm
    rcases List.mem_cons.1 ((wi_perm _ _ _).mem_iff.1 hm) with e | hm
    · cases e; rfl
    · have := hlt i (.inl ⟨m, (mem_wo.1 hm).1⟩)
      omega
  have k1 : look t1.dir bK = some i := look_mem i1.sd.nd m1
  have z1 : t1.file i = zeroF := by
    rw [← ht1]
    show s.tick.grow.file i = _
    rw [file_grow]
    show s.file i = _
    unfold DS.file
    rw [List.getD_eq_getElem?_getD, List.getElem?_eq_none (by omega)]
    rfl
  have l1 : i < t1.files.length := by
    rw [← ht1]
    show i < (s.files ++ [zeroF]).length
    rw [List.length_append, List.length_singleton]
    omega
  clear ht1
  have ha := append_run i1 (by omega) r1 d1 f1 k1 hdata
  rw [z1] at ha
  have ha : t1.append bK data = (0, t1.tick.setF i ⟨data, 0⟩) := by
    rw [ha]
    show (0, t1.tick.setF i ⟨ByteArray.empty ++ data, 0⟩) = _
    rw [emp]
  obtain ⟨t2, ht2⟩ : ∃ t2, t1.tick.setF i ⟨data, 0⟩ = t2 := ⟨_, rfl⟩
  rw [ht2] at ha
  have i2 : Inv t2 := by have := i1.append (by omega) bK hdata; rwa [ha] at this
  have z2 : t2.file i = ⟨data, 0⟩ := by rw [← ht2, file_set (by exact l1), if_pos rfl]
  have k2 : look t2.dir bK = some i := by rw [← ht2]; exact k1
  have hsy : t2.fsync bK = (0, t2.tick.setF i ⟨data, data.size⟩) := by
    unfold DS.fsync
    have hg : agThere t2 bK = 0 := by unfold agThere; rw [if_neg (by rw [k2]; simp)]
    rw [hg, step_run (by rw [← ht2]; exact d1) (by rw [← ht2]; show t1.fuse - 1 = 0; rw [f1]), at_some k2]
    show (0, t2.tick.setF i ⟨(t2.file i).data, (t2.file i).data.size⟩) = _
    rw [z2]
  have e2 : t2.dir = t1.dir ∧ t2.steps = t1.steps + 1 ∧ t2.room = t1.room ∧ t2.down = false ∧ t2.fuse = 0 ∧ i < t2.files.length := by
    rw [← ht2]
    exact ⟨rfl, rfl, rfl, d1, by show t1.fuse - 1 = 0; rw [f1], by show i < (t1.files.set i _).length; rw [List.length_set]; exact l1⟩
  clear ht2
  obtain ⟨t3, ht3⟩ : ∃ t3, t2.tick.setF i ⟨data, data.size⟩ = t3 := ⟨_, rfl⟩
  rw [ht3] at hsy
  have i3 : Inv t3 := by have := i2.fsync (by omega) bK; rwa [hsy] at this
  have z3 : t3.file i = ⟨data, data.size⟩ := by rw [← ht3, file_set (by exact e2.2.2.2.2.2), if_pos rfl]
  have e3 : t3.dir = t1.dir ∧ t3.steps = t1.steps + 2 ∧ t3.room = t1.room ∧ t3.down = false ∧ t3.fuse = 0 ∧ i < t3.files.length := by
    obtain ⟨q1, q2, q3, q4, q5, q6⟩ := e2
    rw [← ht3]
    exact ⟨q1, by show t2.steps + 1 = _; omega, q3, q4, by show t2.fuse - 1 = 0; rw [q5], by show i < (t2.files.set i _).length; rw [List.length_set]; exact q6⟩
  clear ht3
  obtain ⟨w1, w2, w3, w4, w5, w6⟩ := e3
  have hdy : t3.dsync = (0, t3.tick.sync) := by
    unfold DS.dsync
    rw [step_run w4 w5]
  obtain ⟨t4, ht4⟩ : ∃ t4, t3.tick.sync = t4 := ⟨_, rfl⟩
  rw [ht4] at hdy
  have i4 : Inv t4 := by have := i3.dsync (by omega); rwa [hdy] at this
  have e4 : t4.dir = t1.dir ∧ t4.kept = t1.dir ∧ t4.waits = [] ∧ t4.steps = t1.steps + 3 ∧ t4.room = rm ∧ t4.down = false ∧ t4.fuse = 0 ∧ i < t4.files.length ∧ t4.file i = ⟨data, data.size⟩ := by
    rw [← ht4]
    exact ⟨w1, w1, rfl, by show t3.steps + 1 = _; omega, w3.trans r1, w4, by show t3.fuse - 1 = 0; rw [w5], w6, z3⟩
  clear ht4
  obtain ⟨v1, v2, v3, v4, v5, v6, v7, v8, v9⟩ := e4
  have hm := append_run i4 (by omega) v5 v6 v7 (n := bK) (i := i) (by rw [v1]; exact k1) hmore
  rw [v9] at hm
  obtain ⟨t5, ht5⟩ : ∃ t5, t4.tick.setF i ⟨data ++ more, data.size⟩ = t5 := ⟨_, rfl⟩
  have hm : t4.append bK more = (0, t5) := by rw [hm, ← ht5]
  have i5 : Inv t5 := by have := i4.append (by omega) bK hmore; rwa [hm] at this
  have s5 : t5.steps = t4.steps + 1 := by rw [← ht5]; rfl
  refine ⟨t1, t2, t3, t4, t5, i, hcr, ha, hsy, hdy, hm, i1, i2, i3, i4, i5, by omega, by have := e2.2.1; omega, by omega, by omega, by omega, ?_⟩
  rw [← ht5]
  refine ⟨?_, ?_, ?_, ?_, ?_, ?_, ?_⟩
  · show (bK, i) ∈ t4.dir
    rw [v1]; exact m1
  · show ∀ m, (m, i) ∈ t4.dir → m = bK
    rw [v1]; exact o1
  · show (bK, i) ∈ t4.kept
    rw [v2]; exact m1
  · show ∀ m, (m, i) ∈ t4.kept → m = bK
    rw [v2]; exact o1
  · show ∀ c ∈ t4.waits, _
    rw [v3]
    intro c hc
    cases hc
  · rw [file_set (by exact v8), if_pos rfl]
  · show i < (t4.files.set i _).length
    rw [List.length_set]; exact v8
end Go.Proofs.Ytjgiohlkpenipaa
