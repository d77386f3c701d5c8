/- DiskAtOnce, in plain words. Conditions: as each theorem states them. -/
import Derived.Test.YtjgiohlkpenipaaC2
namespace Go.Proofs.Ytjgiohlkpenipaa
open Go.RowKit Go.Maps
set_option linter.unusedVariables false
set_option linter.unusedSimpArgs false

def bO : ByteArray := ⟨#[111, 110, 101]⟩
def bT : ByteArray := ⟨#[116, 119, 111]⟩
def rm : Nat := 268435456
section
variable (x y : ByteArray)
def a1 : DS := ⟨rm, 1, 0, false, [zeroF], [(bO, 0)], [], [⟨ByteArray.empty, bO, 0⟩]⟩
def a2 : DS := ⟨rm, 2, 0, false, [⟨ByteArray.empty ++ x, 0⟩], [(bO, 0)], [], [⟨ByteArray.empty, bO, 0⟩]⟩
def a3 : DS := ⟨rm, 3, 0, false, [⟨ByteArray.empty ++ x, (ByteArray.empty ++ x).size⟩], [(bO, 0)], [], [⟨ByteArray.empty, bO, 0⟩]⟩
def a4 : DS := ⟨rm, 4, 0, false, [⟨ByteArray.empty ++ x, (ByteArray.empty ++ x).size⟩, zeroF], [(bO, 0), (bT, 1)], [], [⟨ByteArray.empty, bO, 0⟩, ⟨ByteArray.empty, bT, 1⟩]⟩
def a5 : DS := ⟨rm, 5, 0, false, [⟨ByteArray.empty ++ x, (ByteArray.empty ++ x).size⟩, ⟨ByteArray.empty ++ y, 0⟩], [(bO, 0), (bT, 1)], [], [⟨ByteArray.empty, bO, 0⟩, ⟨ByteArray.empty, bT, 1⟩]⟩
def a6 : DS := ⟨rm, 6, 0, false, [⟨ByteArray.empty ++ x, (ByteArray.empty ++ x).size⟩, ⟨ByteArray.empty ++ y, (ByteArray.empty ++ y).size⟩], [(bO, 0), (bT, 1)], [], [⟨ByteArray.empty, bO, 0⟩, ⟨ByteArray.empty, bT, 1⟩]⟩
def a7 : DS := ⟨rm, 7, 0, false, [⟨ByteArray.empty ++ x, (ByteArray.empty ++ x).size⟩, ⟨ByteArray.empty ++ y, (ByteArray.empty ++ y).size⟩], [(bO, 0), (bT, 1)], [(bO, 0), (bT, 1)], []⟩
def a8 : DS := ⟨rm, 8, 0, false, [⟨ByteArray.empty ++ x, (ByteArray.empty ++ x).size⟩, ⟨ByteArray.empty ++ y, (ByteArray.empty ++ y).size⟩], [(bO, 1)], [(bO, 0), (bT, 1)], [⟨bT, bO, 1⟩]⟩
def a9 : DS := ⟨rm, 9, 0, false, [⟨ByteArray.empty ++ x, (ByteArray.empty ++ x).size⟩, ⟨ByteArray.empty ++ y, (ByteArray.empty ++ y).size⟩], [(bO, 1)], [(bO, 1)], []⟩
theorem p1 : (newS rm).create bO = (0, a1) := by kernel_rfl
theorem p2 (h : x.size ≤ 2000) : a1.append bO x = (0, a2 x) := by
  have h1 : agAppend a1 bO x = 0 := by
    unfold agAppend
    rw [show look a1.dir bO = some 0 from by kernel_rfl, if_neg (by simp)]
    rw [show a1.used = 0 from by kernel_rfl]
    rw [if_neg (by show ¬ ((rm : Int) - ((0 : Nat) : Int) < x.size); unfold rm; omega)]
  unfold DS.append
  rw [h1]
  exact rfl
theorem p3 : (a2 x).fsync bO = (0, a3 x) := by kernel_rfl
theorem p4 : (a3 x).create bT = (0, a4 x) := by kernel_rfl
theorem p5 (h : x.size ≤ 2000) (h2 : y.size ≤ 2000) : (a4 x).append bT y = (0, a5 x y) := by
  have h1 : agAppend (a4 x) bT y = 0 := by
    unfold agAppend
    rw [show look (a4 x).dir bT = some 1 from by kernel_rfl, if_neg (by simp)]
    have hu : (a4 x).used = x.size := by
      unfold DS.used a4 sumD DS.file zeroF
      simp [ByteArray.size_append]
    rw [hu, if_neg (by show ¬ ((rm : Int) - (x.size : Int) < y.size); unfold rm; omega)]
  unfold DS.append
  rw [h1]
  exact rfl
theorem p6 : (a5 x y).fsync bT = (0, a6 x y) := by kernel_rfl
theorem p7 : (a6 x y).dsync = (0, a7 x y) := by kernel_rfl
theorem p8 : (a7 x y).rename bT bO = (0, a8 x y) := by kernel_rfl
theorem p9 : (a8 x y).dsync = (0, a9 x y) := by kernel_rfl
theorem cutAll_sure : ∀ (l : Dir) (s : DS) (cs : List Int), (∀ p ∈ l, (s.file p.2).sure = (s.file p.2).data.size ∧ p.2 < s.files.length) → cutAll l s cs = (s, cs)
  | [], s, cs, h => rfl
  | p :: l, s, cs, h => by
    obtain ⟨h1, h2⟩ := h p (List.mem_cons_self ..)
    have h3 : cutF cs (s.file p.2) = (s.file p.2, cs) := by
      unfold cutF
      rw [if_neg (by omega)]
    show cutAll l (s.setF p.2 (cutF cs (s.file p.2)).1) (cutF cs (s.file p.2)).2 = _
    rw [h3]
    dsimp only
    rw [setF_same rfl h2]
    exact cutAll_sure l s cs (fun q hq => h q (List.mem_cons_of_mem _ hq))
theorem emp (z : ByteArray) : ByteArray.empty ++ z = z := ByteArray.empty_append
theorem q0 (cs : List Int) (hk : pick cs 2 = 0) : ((a8 x y).crash cs).read bO = (x, 0) ∧ ((a8 x y).crash cs).read bT = (y, 0) := by
  unfold DS.crash
  rw [show (a8 x y).waits.length + 1 = 2 from rfl, hk]
  rw [cutAll_sure _ _ _ (by
    intro p hp
    have hp : p ∈ [(bO, 0), (bT, 1)] := hp
    simp at hp
    rcases hp with rfl | rfl
    · exact ⟨rfl, by show 0 < 2; omega⟩
    · exact ⟨rfl, by show 1 < 2; omega⟩)]
  constructor
  · show (ByteArray.empty ++ x, (0 : Int)) = _
    rw [emp]
  · show (ByteArray.empty ++ y, (0 : Int)) = _
    rw [emp]
theorem q1 (cs : List Int) (hk : pick cs 2 = 1) : ((a8 x y).crash cs).read bO = (y, 0) ∧ ((a8 x y).crash cs).read bT = (ByteArray.empty, 4) := by
  unfold DS.crash
  rw [show (a8 x y).waits.length + 1 = 2 from rfl, hk]
  rw [cutAll_sure _ _ _ (by
    intro p hp
    have hp : p ∈ [(bO, 1)] := hp
    simp at hp
    subst hp
    exact ⟨rfl, by show 1 < 2; omega⟩)]
  constructor
  · show (ByteArray.empty ++ y, (0 : Int)) = _
    rw [emp]
  · kernel_rfl
theorem q9 (cs : List Int) : ((a9 x y).crash cs).read bO = (y, 0) ∧ ((a9 x y).crash cs).read bT = (ByteArray.empty, 4) := by
  unfold DS.crash
  have hk : pick cs 1 = 0 := by have := pick_lt cs (n := 1) (by omega); omega
  rw [show (a9 x y).waits.length + 1 = 1 from rfl, hk]
  rw [cutAll_sure _ _ _ (by
    intro p hp
    have hp : p ∈ [(bO, 1)] := hp
    simp at hp
    subst hp
    exact ⟨rfl, by show 1 < 2; omega⟩)]
  constructor
  · show (ByteArray.empty ++ y, (0 : Int)) = _
    rw [emp]
  · kernel_rfl
theorem okO : okN bO := by unfold okN; decide +kernel
theorem okT : okN bT := by unfold okN; decide +kernel
theorem ivs (h : x.size ≤ 2000) (h2 : y.size ≤ 2000) : Inv a1 ∧ Inv (a2 x) ∧ Inv (a3 x) ∧ Inv (a4 x) ∧ Inv (a5 x y) ∧ Inv (a6 x y) ∧ Inv (a7 x y) ∧ Inv (a8 x y) ∧ Inv (a9 x y) := by
  have i0 : Inv (newS rm) := Inv.new (by unfold rm; omega)
  have i1 : Inv a1 := by have := i0.create (by decide +kernel) bO; rwa [p1] at this
  have i2 : Inv (a2 x) := by have := i1.append (by decide +kernel) bO h; rwa [p2 x h] at this
  have i3 : Inv (a3 x) := by have := i2.fsync (by show 2 < 1000000; omega) bO; rwa [p3] at this
  have i4 : Inv (a4 x) := by have := i3.create (by show 3 < 1000000; omega) bT; rwa [p4] at this
  have i5 : Inv (a5 x y) := by have := i4.append (by show 4 < 1000000; omega) bT h2; rwa [p5 x y h h2] at this
  have i6 : Inv (a6 x y) := by have := i5.fsync (by show 5 < 1000000; omega) bT; rwa [p6] at this
  have i7 : Inv (a7 x y) := by have := i6.dsync (by show 6 < 1000000; omega); rwa [p7] at this
  have i8 : Inv (a8 x y) := by have := i7.rename (by show 7 < 1000000; omega) bT bO; rwa [p8] at this
  have i9 : Inv (a9 x y) := by have := i8.dsync (by show 8 < 1000000; omega); rwa [p9] at this
  exact ⟨i1, i2, i3, i4, i5, i6, i7, i8, i9⟩
end
end Go.Proofs.Ytjgiohlkpenipaa
