/- The orders of windows and of places; the library's sort at them. Conditions: as each theorem states them. -/
import Derived.Test.YtfojblbnhapedaaGreatDoorS2
namespace Go.Proofs.YtfojblbnhapedaaGreatDoor
open Go.RowKit Go.Sort Go.Shelf Go.Lib
set_option linter.unusedVariables false
set_option linter.unusedSimpArgs false

theorem less_list : ∀ (x y : List UInt8), Op.bytesLess x y = decide (x < y)
  | [], [] => by simp [Op.bytesLess]
  | _ :: _, [] => by simp [Op.bytesLess]
  | [], _ :: _ => by simp [Op.bytesLess]
  | a :: x, b :: y => by
    rw [Op.bytesLess, less_list x y]
    simp only [List.cons_lt_cons_iff]
    by_cases h1 : a < b <;> by_cases h2 : a = b <;> by_cases h3 : x < y <;> simp [h1, h2, h3]
theorem toLq (a : ByteArray) : a.toList = a.data.toList := ByteArray.toList_eq a
theorem toL_inj {a b : ByteArray} (h : a.toList = b.toList) : a = b := by
  rw [toLq, toLq] at h
  cases a; cases b
  simp only [Array.toList_inj] at h
  rw [h]
theorem l_irrefl : ∀ (x : List UInt8), ¬ x < x
  | [], h => by cases h
  | a :: x, h => by
    rw [List.cons_lt_cons_iff] at h
    rcases h with h | ⟨_, h⟩
    · exact absurd h (UInt8.lt_irrefl a)
    · exact l_irrefl x h
theorem l_trans : ∀ {x y z : List UInt8}, x < y → y < z → x < z
  | [], _, [], _, h => by cases h
  | [], _, _ :: _, _, _ => by simp
  | _ :: _, [], _, h, _ => by cases h
  | _ :: _, _ :: _, [], _, h => by cases h
  | a :: x, b :: y, c :: z, h, k => by
    rw [List.cons_lt_cons_iff] at *
    rcases h with h | ⟨rfl, h⟩
    · rcases k with k | ⟨rfl, k⟩
      · exact .inl (UInt8.lt_trans h k)
      · exact .inl h
    · rcases k with k | ⟨rfl, k⟩
      · exact .inl k
      · exact .inr ⟨rfl, l_trans h k⟩
theorem l_tri : ∀ (x y : List UInt8), x < y ∨ x = y ∨ y < x
  | [], [] => .inr (.inl rfl)
  | [], _ :: _ => .inl (by simp)
  | _ :: _, [] => .inr (.inr (by simp))
  | a :: x, b :: y => by
    rw [List.cons_lt_cons_iff, List.cons_lt_cons_iff]
    by_cases h1 : a < b
    · exact .inl (.inl h1)
    · by_cases h2 : b < a
      · exact .inr (.inr (.inl h2))
      · have hab : a = b := by
          rw [UInt8.lt_iff_toNat_lt] at h1 h2
          exact UInt8.toNat_inj.1 (by omega)
        subst hab
        rcases l_tri x y with h | h | h
        · exact .inl (.inr ⟨rfl, h⟩)
        · exact .inr (.inl (by rw [h]))
        · exact .inr (.inr (.inr ⟨rfl, h⟩))
theorem cmpS_eq (a b : ByteArray) : cmpS a b = if a.toList < b.toList then -1 else if a.toList = b.toList then 0 else 1 := by
  unfold cmpS lessS
  rw [less_list]
  simp only [decide_eq_true_eq, beq_iff_eq]
/-- Three values hold of an order: less, level, greater. -/
theorem cmpS_cases (a b : ByteArray) : (cmpS a b = -1 ∧ a.toList < b.toList ∧ cmpS b a = 1) ∨ (cmpS a b = 0 ∧ a = b ∧ cmpS b a = 0) ∨ (cmpS a b = 1 ∧ b.toList < a.toList ∧ cmpS b a = -1) := by
  rw [cmpS_eq, cmpS_eq]
  rcases l_tri a.toList b.toList with h | h | h
  · have h1 : ¬ b.toList < a.toList := fun k => l_irrefl _ (l_trans h k)
    have h2 : ¬ b.toList = a.toList := fun k => by rw [k] at h; exact l_irrefl _ h
    left
    simp [h, h1, h2]
  · have := toL_inj h
    subst this
    right; left
    simp [l_irrefl]
  · have h1 : ¬ a.toList < b.toList := fun k => l_irrefl _ (l_trans h k)
    have h2 : ¬ a.toList = b.toList := fun k => by rw [k] at h; exact l_irrefl _ h
    right; right
    simp [h, h1, h2]
theorem cmpI_cases (a b : Int) : (cmpI a b = -1 ∧ a < b ∧ cmpI b a = 1) ∨ (cmpI a b = 0 ∧ a = b ∧ cmpI b a = 0) ∨ (cmpI a b = 1 ∧ b < a ∧ cmpI b a = -1) := by
  unfold cmpI
  rcases Int.lt_trichotomy a b with h | h | h
  · left
    have h1 : ¬ b < a := by omega
    simp [h, h1]
  · right; left
    subst h
    simp
  · right; right
    have h1 : ¬ a < b := by omega
    simp [h, h1]
/-- a is ahead of b. -/
def ltP (a b : Pl) : Prop := a.t < b.t ∨ (a.t = b.t ∧ (a.op < b.op ∨ (a.op = b.op ∧ (a.key.toList < b.key.toList ∨ (a.key = b.key ∧ a.f < b.f)))))
theorem cmpP_cases (a b : Pl) : (cmpP a b = -1 ∧ ltP a b ∧ cmpP b a = 1) ∨ (cmpP a b = 0 ∧ a = b ∧ cmpP b a = 0) ∨ (cmpP a b = 1 ∧ ltP b a ∧ cmpP b a = -1) := by
  obtain ⟨o, k, f, t⟩ := a
  obtain ⟨o', k', f', t'⟩ := b
  unfold cmpP ltP
  dsimp only
  rcases cmpI_cases t t' with ⟨h1, h2, h3⟩ | ⟨h1, h2, h3⟩ | ⟨h1, h2, h3⟩
  · left
    rw [h1, h3]
    simp [orI, h2]
  · subst h2
    rcases cmpI_cases o o' with ⟨o1, o2, o3⟩ | ⟨o1, o2, o3⟩ | ⟨o1, o2, o3⟩
    · left
      rw [h1, o1, o3]
      simp [orI, o2]
    · subst o2
      rcases cmpS_cases k k' with ⟨k1, k2, k3⟩ | ⟨k1, k2, k3⟩ | ⟨k1, k2, k3⟩
      · left
        rw [h1, o1, k1, k3]
        simp [orI, k2]
      · subst k2
        rcases cmpI_cases f f' with ⟨s1, s2, s3⟩ | ⟨s1, s2, s3⟩ | ⟨s1, s2, s3⟩
        · left
          rw [h1, o1, k1, s1, s3]
          simp [orI, s2]
        · subst s2
          right; left
          rw [h1, o1, k1, s1]
          simp [orI]
        · right; right
          rw [h1, o1, k1, s1, s3]
          simp [orI, s2]
      · right; right
        rw [h1, o1, k1, k3]
        simp [orI, k2]
    · right; right
      rw [h1, o1, o3]
      simp [orI, o2]
  · right; right
    rw [h1, h3]
    simp [orI, h2]
theorem ltP_trans {a b c : Pl} (h : ltP a b) (k : ltP b c) : ltP a c := by
  unfold ltP at *
  rcases h with h | ⟨h0, h⟩
  · rcases k with k | ⟨k0, k⟩ <;> exact .inl (by omega)
  rcases k with k | ⟨k0, k⟩
  · exact .inl (by omega)
  refine .inr ⟨by omega, ?_⟩
  rcases h with h | ⟨h1, h⟩
  · rcases k with k | ⟨k1, k⟩ <;> exact .inl (by omega)
  rcases k with k | ⟨k1, k⟩
  · exact .inl (by omega)
  refine .inr ⟨by omega, ?_⟩
  rcases h with h | ⟨h2, h⟩
  · rcases k with k | ⟨k2, k⟩
    · exact .inl (l_trans h k)
    · exact .inl (k2 ▸ h)
  rcases k with k | ⟨k2, k⟩
  · exact .inl (h2 ▸ k)
  · exact .inr ⟨h2.trans k2, by omega⟩
theorem ltP_irrefl (a : Pl) : ¬ ltP a a := by
  unfold ltP
  rintro (h | ⟨_, h | ⟨_, h | ⟨_, h⟩⟩⟩)
  · omega
  · omega
  · exact l_irrefl _ h
  · omega
theorem cmpP_lt {a b : Pl} : cmpP a b < 0 ↔ ltP a b := by
  rcases cmpP_cases a b with ⟨h, k, _⟩ | ⟨h, k, _⟩ | ⟨h, k, _⟩
  · simp [h, k]
  · subst k
    simp [h, ltP_irrefl]
  · rw [h]
    constructor
    · intro h; omega
    · intro k'; exact absurd (ltP_trans k k') (ltP_irrefl _)
theorem ltP_tri (a b : Pl) : ltP a b ∨ a = b ∨ ltP b a := by
  rcases cmpP_cases a b with ⟨_, k, _⟩ | ⟨_, k, _⟩ | ⟨_, k, _⟩
  · exact .inl k
  · exact .inr (.inl k)
  · exact .inr (.inr k)
theorem swoP : SWO (ltOf cmpP) where
  irrefl x := by
    unfold ltOf
    rw [decide_eq_false_iff_not, cmpP_lt]
    exact ltP_irrefl x
  trans x y z h k := by
    unfold ltOf at *
    rw [decide_eq_true_eq, cmpP_lt] at *
    exact ltP_trans h k
  ntrans x y z h k := by
    unfold ltOf at *
    rw [decide_eq_false_iff_not, cmpP_lt] at *
    intro hxz
    rcases ltP_tri y x with c | c | c
    · exact k (ltP_trans c hxz)
    · subst c; exact k hxz
    · exact h c
/-- What stands not behind. -/
def leP (a b : Pl) : Prop := ¬ ltP b a
instance (a b : Pl) : Decidable (ltP a b) := by unfold ltP; infer_instance
instance (a b : Pl) : Decidable (leP a b) := by unfold leP; infer_instance
theorem leP_antisymm {a b : Pl} (h : leP a b) (k : leP b a) : a = b := by
  rcases ltP_tri a b with c | c | c
  · exact absurd c k
  · exact c
  · exact absurd c h
/-- The places in order. -/
def sortP (l : List Pl) : List Pl := l.mergeSort fun x y => decide (leP x y)
theorem leP_trans {a b c : Pl} (h : leP a b) (k : leP b c) : leP a c := fun hc => by
  rcases ltP_tri b a with d | d | d
  · exact h d
  · subst d; exact k hc
  · exact k (ltP_trans hc d)
theorem leP_total (a b : Pl) : leP a b ∨ leP b a := by
  rcases ltP_tri a b with c | c | c
  · exact .inl (fun d => ltP_irrefl _ (ltP_trans c d))
  · subst c; exact .inl (ltP_irrefl _)
  · exact .inr (fun d => ltP_irrefl _ (ltP_trans c d))
theorem sortP_perm (l : List Pl) : (sortP l).Perm l := List.mergeSort_perm _ _
theorem sortP_sorted (l : List Pl) : (sortP l).Pairwise leP := by
  have h := List.pairwise_mergeSort (le := fun x y => decide (leP x y)) (fun a b c h k => by
    simp only [decide_eq_true_eq] at *
    exact leP_trans h k) (fun a b => by
    simp only [Bool.or_eq_true, decide_eq_true_eq]
    exact leP_total a b) l
  exact h.imp fun {a b} h => by simpa using h
theorem sortP_uniq {l l' : List Pl} (hp : l'.Perm l) (hs : l'.Pairwise leP) : l' = sortP l :=
  List.Perm.eq_of_pairwise (le := leP) (fun a b _ _ h k => leP_antisymm h k) hs (sortP_sorted l) (hp.trans (sortP_perm l).symm)
instance : Inhabited Pl := ⟨⟨0, ByteArray.empty, 0, 0⟩⟩
def encP (x : Pl) : List Value := [.int .i64 x.op, .string x.key, .int .i64 x.f, .int .i64 x.t]
def plcells (l : List Pl) : List Value := l.flatMap encP
theorem sortp_any (B n : Nat) (vo : Value) (l : List Pl) (w : World) (h : w.ownsRow B 105 4 vo n (plcells l)) (hl : l.length = n) (hn : n ≤ 1000000) :
    Calls Tryz.prog 66 #[vo, .func (.func 67) #[] #[]] w fun e w' => e = .returned (.tuple #[]) ∧ w'.ownsRow B 105 4 vo n (plcells (sortP l)) ∧ Kw (fun b => vo.ownBlock = some b) w w' := by
  refine (sort_row Tryz.sortPl 4 (by decide) (fun w => by kernel_rfl) (fun w => by kernel_rfl) encP (fun _ => rfl) (fun x v hv => by simp [encP] at hv; rcases hv with rfl | rfl | rfl | rfl <;> rfl) cmpP swoP 67 (enters_of Tryz.func67 (by kernel_rfl) rfl) B n vo l w h hl hn ?_).mono ?_
  · intro blk off size m os dk hs x y
    refine (cmpp_gr x.op x.f x.t y.op y.f y.t x.key y.key (sortWorldK encP 4 w blk off m dk os) _ rfl).mono ?_
    rintro e w' ⟨rfl, q, os', rfl⟩
    exact ⟨rfl, q, os', rfl⟩
  · rintro e w' ⟨rfl, l', hp, hs, ho, hk⟩
    have e : l' = sortP l := sortP_uniq hp (hs.imp fun {a b} h => by
      unfold ltOf at h
      rw [decide_eq_false_iff_not, cmpP_lt] at h
      exact h)
    subst e
    exact ⟨rfl, ho, hk⟩
/-- The windows by where they begin. -/
def sortW (l : List (Int × Int)) : List (Int × Int) := l.mergeSort fun x y => decide (x.1 ≤ y.1)
theorem sortW_perm (l : List (Int × Int)) : (sortW l).Perm l := List.mergeSort_perm _ _
theorem sortW_sorted (l : List (Int × Int)) : (sortW l).Pairwise (fun x y => x.1 ≤ y.1) := by
  have h := List.pairwise_mergeSort (le := fun x y : Int × Int => decide (x.1 ≤ y.1)) (fun a b c h k => by
    simp only [decide_eq_true_eq] at *
    omega) (fun a b => by
    simp only [Bool.or_eq_true, decide_eq_true_eq]
    omega) l
  exact h.imp fun {a b} h => by simpa using h
/-- No two windows begin at one place, but they are one. -/
def DistF (l : List (Int × Int)) : Prop := ∀ x ∈ l, ∀ y ∈ l, x.1 = y.1 → x = y
theorem sortW_uniq {l l' : List (Int × Int)} (hd : DistF l) (hp : l'.Perm l) (hs : l'.Pairwise (fun x y => x.1 ≤ y.1)) : l' = sortW l :=
  List.Perm.eq_of_pairwise (le := fun x y : Int × Int => x.1 ≤ y.1) (fun a b ha hb h k => hd a (hp.mem_iff.1 ha) b ((sortW_perm l).mem_iff.1 hb) (by omega)) hs (sortW_sorted l) (hp.trans (sortW_perm l).symm)
def encW (p : Int × Int) : List Value := [.int .i64 p.1, .int .i64 p.2]
def cmpW (x y : Int × Int) : Int := cmpI x.1 y.1
theorem cmpW_lt (x y : Int × Int) : cmpW x y < 0 ↔ x.1 < y.1 := by
  unfold cmpW
  rcases cmpI_cases x.1 y.1 with ⟨h, k, _⟩ | ⟨h, k, _⟩ | ⟨h, k, _⟩ <;> rw [h] <;> omega
theorem swoW : SWO (ltOf cmpW) where
  irrefl x := by
    unfold ltOf
    rw [decide_eq_false_iff_not, cmpW_lt]
    omega
  trans x y z h k := by
    unfold ltOf at *
    rw [decide_eq_true_eq, cmpW_lt] at *
    omega
  ntrans x y z h k := by
    unfold ltOf at *
    rw [decide_eq_false_iff_not, cmpW_lt] at *
    omega
theorem sortw_any (B n : Nat) (vo : Value) (l : List (Int × Int)) (w : World) (h : w.ownsRow B 54 2 vo n (wcells l)) (hl : l.length = n) (hn : n ≤ 1000000) (hd : DistF l) :
    Calls Tryz.prog 73 #[vo, .func (.func 74) #[] #[]] w fun e w' => e = .returned (.tuple #[]) ∧ w'.ownsRow B 54 2 vo n (wcells (sortW l)) ∧ Kw (fun b => vo.ownBlock = some b) w w' := by
  refine (sort_row Tryz.sortWn 2 (by decide) (fun w => by kernel_rfl) (fun w => by kernel_rfl) encW (fun _ => rfl) (fun x v hv => by simp [encW] at hv; rcases hv with rfl | rfl <;> rfl) cmpW swoW 74 (enters_of Tryz.func74 (by kernel_rfl) rfl) B n vo l w h hl hn ?_).mono ?_
  · intro blk off size m os dk hs x y
    refine (cmpw_gr x.1 x.2 y.1 y.2 (sortWorldK encW 2 w blk off m dk os)).mono ?_
    rintro e w' ⟨rfl, q, os', rfl⟩
    exact ⟨rfl, q, os', rfl⟩
  · rintro e w' ⟨rfl, l', hp, hs, ho, hk⟩
    have e : l' = sortW l := sortW_uniq hd hp (hs.imp fun {a b} h => by
      unfold ltOf at h
      rw [decide_eq_false_iff_not, cmpW_lt] at h
      omega)
    subst e
    exact ⟨rfl, ho, hk⟩
end Go.Proofs.YtfojblbnhapedaaGreatDoor
