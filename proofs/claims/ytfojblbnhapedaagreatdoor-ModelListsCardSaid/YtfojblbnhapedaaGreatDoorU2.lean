/- The opening of a Windows argument. Conditions: as each theorem states them. -/
import Derived.Test.YtfojblbnhapedaaGreatDoorY2
import Derived.Test.YtfojblbnhapedaaGreatDoorO2
import Derived.Test.YtfojblbnhapedaaGreatDoorM4
import Derived.Test.YtfojblbnhapedaaGreatDoorK0
namespace Go.Proofs.YtfojblbnhapedaaGreatDoor
open Go.RowKit Go.Maps
set_option linter.unusedVariables false
set_option linter.unusedSimpArgs false

def opT (nm : UInt8) (g K S L : Int) : JOp := ⟨⟨#[nm]⟩, g, K, S, L⟩
def opsT (K S L : Int) : List JOp := [opT 97 1 K S L, opT 98 6 K S L, opT 99 2 K S L, opT 100 3 K S L, opT 101 4 K S L, opT 102 5 K S L]
def jobT (K S L : Int) (A : Option Addr) (c : Nat) : Jb := ⟨1, 16, 0, 0, opsT K S L, A, c⟩
/-- The windows and values of an operator, as operator 0's. -/
def atO (i : Nat) (P : PL) : PL := mapL re0 (selL (QO i) P)
theorem six {i : Nat} (h : i < 6) : i = 0 ∨ i = 1 ∨ i = 2 ∨ i = 3 ∨ i = 4 ∨ i = 5 := by omega
theorem chs_same (K S L : Int) (A : Option Addr) (c : Nat) {i : Nat} (hi : i < 6) (P : PL) (key : ByteArray) (t was : Int) : chsP (oneJ (jobT K S L A c) i 1 none 0) P key t was = chsP (oneJ (jobT K S L A c) 0 1 none 0) P key t was := by
  have h2 : ∀ i, (List.range (oneJ (jobT K S L A c) i 1 none 0).ops.length) = [0] := fun _ => rfl
  unfold chsP
  rw [h2, h2, List.flatMap_cons, List.flatMap_nil, List.flatMap_cons, List.flatMap_nil]
  rcases six hi with rfl | rfl | rfl | rfl | rfl | rfl <;> rfl
theorem rec_same (K S L : Int) (A : Option Addr) (c : Nat) {i : Nat} (hi : i < 6) (s : QS) (e : Ev) : recQ (oneJ (jobT K S L A c) i 1 none 0) s e = recQ (oneJ (jobT K S L A c) 0 1 none 0) s e := by
  unfold recQ
  rw [chs_same K S L A c hi]
theorem same_rec {K S L : Int} {A : Option Addr} {c : Nat} {s : QS} {i : Nat} (hi : i < 6) (h : atO i s.2 = atO 0 s.2) (e : Ev) : atO i (recQ (jobT K S L A c) s e).1 = atO 0 (recQ (jobT K S L A c) s e).1 := by
  have h1 := rec_one (j := jobT K S L A c) (i := i) hi 1 none 0 (s := s) (s2 := (s.1, atO i s.2)) ⟨rfl, rfl⟩ e
  have h2 := rec_one (j := jobT K S L A c) (i := 0) (show 0 < 6 by decide) 1 none 0 (s := s) (s2 := (s.1, atO 0 s.2)) ⟨rfl, rfl⟩ e
  rw [rec_same K S L A c hi, h] at h1
  exact (Prod.mk.inj (h1.symm.trans h2)).1
theorem atO_pass (i : Nat) (late now : Int) (P : PL) : atO i (passL late now P) = passL late now (atO i P) := by
  unfold atO
  rw [pass_sel]
  exact (passL_map late now now _ fun _ _ => rfl).symm
theorem same_go {K S L : Int} {A : Option Addr} {c : Nat} {s : QS} {i : Nat} (hi : i < 6) (h : atO i s.2 = atO 0 s.2) (e : Ev) : atO i (goQ (jobT K S L A c) s e).2 = atO 0 (goQ (jobT K S L A c) s e).2 := by
  unfold goQ
  split
  · unfold nxtQ
    dsimp only
    rw [atO_pass, atO_pass, same_rec hi h]
  · exact h
theorem wins_same {P : PL} {i : Nat} (h : atO i P = atO 0 P) (key : ByteArray) : winsP P i key = winsP P ((0 : Nat) : Int) key := by
  rw [← winsP_one i, ← winsP_one 0]
  show winsP (atO i P) 0 key = winsP (atO 0 P) 0 key
  rw [h]
theorem val_at (i : Nat) (P : PL) (key : ByteArray) (f t : Int) : val1 (atO i P) ⟨0, key, f, t⟩ = val1 P ⟨i, key, f, t⟩ := by
  have h := val_map (re0_inj i) (p := ⟨i, key, f, t⟩) (show DO i _ from rfl) (selL (QO i) P) (selO_dom i P)
  rw [val_sel (show QO i ⟨i, key, f, t⟩ = true from decide_eq_true rfl)] at h
  exact h
theorem val_same {P : PL} {i : Nat} (h : atO i P = atO 0 P) (key : ByteArray) (f t : Int) : val1 P ⟨i, key, f, t⟩ = val1 P ⟨((0 : Nat) : Int), key, f, t⟩ := by rw [← val_at i, ← val_at 0, h]
/-- What is open of an operator, by operator 0's windows. -/
theorem open_same {K S L : Int} {A : Option Addr} {c : Nat} {P : PL} {i : Nat} (hi : i < 6) (h : atO i P = atO 0 P) (key : ByteArray) : openP (jobT K S L A c) P i key = (winsP P ((0 : Nat) : Int) key).map fun w => (w, FT (aggJ (jobT K S L A c) i) (val1 P ⟨((0 : Nat) : Int), key, w.1, w.2⟩)) := by
  unfold openP
  rw [wins_same h]
  refine List.map_congr_left fun w _ => ?_
  rw [val_same h]
/-- The values of a window that is open. -/
theorem val_good {j : Jb} {P : PL} (hg : GoodL j P) {n : Nat} (ht : ∀ Q, Thin j Q → tot (selL Q P) ≤ n) {i : Int} {key : ByteArray} {w : Int × Int} (h : w ∈ winsP P i key) : val1 P ⟨i, key, w.1, w.2⟩ ≠ [] ∧ (∀ x ∈ val1 P ⟨i, key, w.1, w.2⟩, i64 x) ∧ (val1 P ⟨i, key, w.1, w.2⟩).length ≤ n := by
  obtain ⟨y, hy, he⟩ := winsP_mem h
  have h3 := val1_at hg.nd hy
  rw [he] at h3
  rw [h3]
  refine ⟨(hg.vs y hy).1, (hg.vs y hy).2, ?_⟩
  obtain ⟨Q, h1, h2⟩ := thin_at (j := j) y.1
  exact Nat.le_trans (sel_len hy h2) (ht Q h1)
/-- One value's text. -/
theorem ft_one (x : Int) (hx : i64 x) (g : Int) (h1 : 2 ≤ g) (h2 : g ≤ 6) : FT g [x] = num x := by
  have hg : g = 2 ∨ g = 3 ∨ g = 4 ∨ g = 5 ∨ g = 6 := by omega
  rcases hg with rfl | rfl | rfl | rfl | rfl
  · show num (sumF [x]) = num x
    have h : sumF [x] = x := by
      show wrap64 (0 + x) = x
      unfold i64 at hx
      unfold wrap64
      omega
    rw [h]
  · show num (Lib.minOf [x]) = num x
    have h : Lib.minOf [x] = x := by simp [Lib.minOf]
    rw [h]
  · show num (Lib.maxOf [x]) = num x
    have h : Lib.maxOf [x] = x := by simp [Lib.maxOf]
    rw [h]
  · rfl
  · show listF [x] = num x
    unfold listF num
    have h : Lib.join (([x].take 64).map fun x => Lib.itoa x) [44] = Lib.itoa x := Lib.join_one _ _
    rw [h]
/-- How many commas the first bytes have. -/
def cmN (s : ByteArray) : Nat → Nat
  | 0 => 0
  | i + 1 => cmN s i + if bAt s i = 44 then 1 else 0
theorem digs_comma (u : Nat) : (Lib.decDigits u).count 44 = 0 := by
  induction u using Nat.strongRecOn with
  | _ u ih =>
    have hd : ∀ d, d < 10 → List.count (44 : UInt8) [UInt8.ofNat (48 + d)] = 0 := by decide
    rw [Lib.decDigits]
    split
    · rename_i h
      exact hd u h
    · rename_i h
      rw [List.count_append, ih (u / 10) (by omega), hd _ (Nat.mod_lt _ (by decide))]
theorem itoa_comma (x : Int) : (Lib.itoa x).count 44 = 0 := by
  unfold Lib.itoa
  split
  · rw [List.count_cons, digs_comma]
    decide
  · exact digs_comma _
theorem tail_comma : ∀ l : List Int, (Lib.joinTail [44] (l.map fun x => Lib.itoa x)).count 44 = l.length
  | [] => rfl
  | x :: l => by
    have ih := tail_comma l
    unfold Lib.joinTail at ih ⊢
    rw [List.map_cons, List.map_cons, List.flatten_cons, List.count_append, ih, List.count_append, itoa_comma, List.length_cons]
    have : List.count (44 : UInt8) [44] = 1 := by decide
    rw [this]
    omega
theorem join_comma (l : List Int) (h : l ≠ []) : (Lib.join (l.map fun x => Lib.itoa x) [44]).count 44 + 1 = l.length := by
  cases l with
  | nil => exact absurd rfl h
  | cons x l =>
    rw [List.map_cons, Lib.join_cons, List.count_append, itoa_comma, tail_comma, List.length_cons]
    omega
theorem cmN_count (s : List UInt8) : ∀ k, k ≤ s.length → cmN ⟨s.toArray⟩ k = (s.take k).count 44
  | 0, _ => rfl
  | k + 1, h => by
    have ih := cmN_count s k (by omega)
    rw [List.take_succ_eq_append_getElem (by omega), List.count_append, ← ih]
    show _ + _ = _ + _
    congr 1
    have hb : bAt ⟨s.toArray⟩ k = (s[k]'(by omega)).toNat := by
      have hk : k < s.length := by omega
      unfold bAt
      simp [ByteArray.get!, hk]
    rw [hb]
    by_cases he : s[k]'(by omega) = 44
    · rw [he]; decide
    · have hn : ¬ (s[k]'(by omega)).toNat = 44 := fun h2 => he (UInt8.toNat_inj.1 (by rw [h2]; rfl))
      rw [if_neg hn, List.count_cons, List.count_nil]
      simp [he]
/-- The commas of a list's text. -/
theorem list_comma (vs : List Int) (h : vs ≠ []) : cmN (listF vs) (listF vs).size + 1 = min vs.length 64 := by
  have hs : (listF vs).size = (Lib.join ((vs.take 64).map fun x => Lib.itoa x) [44]).length := by
    unfold listF
    show Array.size _ = _
    simp
  rw [hs]
  unfold listF
  rw [cmN_count _ _ (Nat.le_refl _), List.take_length]
  have hne : vs.take 64 ≠ [] := by
    cases vs with
    | nil => exact absurd rfl h
    | cons x l => simp
  rw [join_comma _ hne, List.length_take]
  omega
end Go.Proofs.YtfojblbnhapedaaGreatDoor
namespace Go.Proofs.YtfojblbnhapedaaGreatDoor
open Go.RowKit Go.Maps
set_option linter.unusedVariables false
set_option linter.unusedSimpArgs false

def winc (K S L : Int) : Array Value := #[.int .i64 K, .int .i64 S, .int .i64 L]
def opc (K S L : Int) : Array Value := #[.string ⟨#[97]⟩, .int .i64 1, .int .i64 K, .int .i64 S, .int .i64 L, .string ⟨#[98]⟩, .int .i64 6, .int .i64 K, .int .i64 S, .int .i64 L, .string ⟨#[99]⟩, .int .i64 2, .int .i64 K, .int .i64 S, .int .i64 L, .string ⟨#[100]⟩, .int .i64 3, .int .i64 K, .int .i64 S, .int .i64 L, .string ⟨#[101]⟩, .int .i64 4, .int .i64 K, .int .i64 S, .int .i64 L, .string ⟨#[102]⟩, .int .i64 5, .int .i64 K, .int .i64 S, .int .i64 L]
def jc (n : Nat) : Array Value := #[.int .i64 1, .int .i64 16, .int .i64 0, .int .i64 0, .slice (some ⟨n, 0, none⟩) 6 6]
def headW (w : World) (K S L : Int) : World := ((w.alloc (Obj.cells (winc K S L) 46)).alloc (Obj.cells (opc K S L) 48)).alloc (Obj.cells (jc (w.heap.size + 1)) 24)
theorem head_bl (w : World) (K S L : Int) : Below w.heap.size w (headW w K S L) := bl_alloc (bl_alloc (bl_alloc (Below.refl _ _) _) _) _
theorem head_ops (w : World) (K S L : Int) : RdP (headW w K S L) (some ⟨w.heap.size + 1, 0, none⟩) (opsT K S L) := by
  have hs1 : (w.alloc (Obj.cells (winc K S L) 46)).heap.size = w.heap.size + 1 := by simp
  have hn := heap_alloc_new (w.alloc (Obj.cells (winc K S L) 46)) (Obj.cells (opc K S L) 48)
  rw [hs1] at hn
  have hb := bl_alloc (Below.refl ((w.alloc (Obj.cells (winc K S L) 46)).alloc (Obj.cells (opc K S L) 48)).heap.size ((w.alloc (Obj.cells (winc K S L) 46)).alloc (Obj.cells (opc K S L) 48))) (Obj.cells (jc (w.heap.size + 1)) 24)
  have hh := (hb.block (w.heap.size + 1) (Array.getElem?_eq_some_iff.1 hn).1).trans hn
  refine ⟨fun _ => ⟨w.heap.size + 1, 0, rfl, (Array.getElem?_eq_some_iff.1 hh).1, fun i hi => ?_⟩, fun o ho => ?_⟩
  · have hi : i < 6 := hi
    rcases six hi with rfl | rfl | rfl | rfl | rfl | rfl
    · exact ⟨cell_of hh 0, cell_of hh 1, cell_of hh 2, cell_of hh 3, cell_of hh 4⟩
    · exact ⟨cell_of hh 5, cell_of hh 6, cell_of hh 7, cell_of hh 8, cell_of hh 9⟩
    · exact ⟨cell_of hh 10, cell_of hh 11, cell_of hh 12, cell_of hh 13, cell_of hh 14⟩
    · exact ⟨cell_of hh 15, cell_of hh 16, cell_of hh 17, cell_of hh 18, cell_of hh 19⟩
    · exact ⟨cell_of hh 20, cell_of hh 21, cell_of hh 22, cell_of hh 23, cell_of hh 24⟩
    · exact ⟨cell_of hh 25, cell_of hh 26, cell_of hh 27, cell_of hh 28, cell_of hh 29⟩
  · unfold opsT at ho
    simp only [List.mem_cons, List.not_mem_nil, or_false] at ho
    rcases ho with rfl | rfl | rfl | rfl | rfl | rfl <;> (show 1 ≤ 9223372036854775807; decide)
theorem ctcells_at3 : ∀ (l : List Ct) (i : Nat) (h : i < l.length), (ctcells l)[i * 3]? = some (.int .i64 (l[i]).1.1) ∧ (ctcells l)[i * 3 + 1]? = some (.int .i64 (l[i]).1.2) ∧ (ctcells l)[i * 3 + 2]? = some (.string (l[i]).2)
  | [], i, h => absurd h (Nat.not_lt_zero _)
  | o :: l, 0, h => ⟨rfl, rfl, rfl⟩
  | o :: l, i + 1, h => by
    have ih := ctcells_at3 l i (by simpa using h)
    have e : ∀ k, (ctcells (o :: l))[(i + 1) * 3 + k]? = (ctcells l)[i * 3 + k]? := fun k => by
      rw [show (i + 1) * 3 + k = (i * 3 + k) + 3 from by omega]
      rfl
    exact ⟨(e 0).trans ih.1, (e 1).trans ih.2.1, (e 2).trans ih.2.2⟩
theorem cmN_le (s : ByteArray) : ∀ k, cmN s k ≤ k
  | 0 => Nat.le_refl _
  | k + 1 => by
    have ih := cmN_le s k
    show cmN s k + (if bAt s k = 44 then 1 else 0) ≤ k + 1
    split <;> omega
theorem listF_size (vs : List Int) (h : ∀ x ∈ vs, i64 x) : (listF vs).size ≤ 2000 := by
  have hs : (listF vs).size = (Lib.join ((vs.take 64).map fun x => Lib.itoa x) [44]).length := by
    unfold listF
    show Array.size _ = _
    simp
  rw [hs]
  refine Nat.le_trans (join_le _ (by decide) _ (fun x hx => ?_)) (by rw [List.length_map, List.length_take]; omega)
  obtain ⟨y, hy, rfl⟩ := List.mem_map.1 hx
  have := h y (List.mem_of_mem_take hy)
  exact Lib.itoa_length_le y this.1 (by have := this.2; omega)
set_option maxRecDepth 100000 in
set_option maxHeartbeats 4000000 in
theorem lists_early (K S L : Int) (nl : Nat) (A : Option Addr) (c : Nat) (key : ByteArray) (w : World) (h : 60 < nl) : Calls Tryz.prog 10 #[.agg #[.int .i64 K, .int .i64 S, .int .i64 L], .slice A nl c, .string key] w fun e w' => e = .returned (.bool true) ∧ Below w.heap.size w w' := by
  have HB := Lib.hid (bl_alloc (Below.refl w.heap.size w) (Obj.cells #[.int .i64 K, .int .i64 S, .int .i64 L] 46))
  have HA := Lib.hid (awake_any (w.alloc (Obj.cells #[.int .i64 K, .int .i64 S, .int .i64 L] 46)))
  have HF : Hid (∀ (e : Ending) (w' : World), (e = .returned (.bool true) ∧ Below (w.alloc (Obj.cells #[.int .i64 K, .int .i64 S, .int .i64 L] 46)).heap.size (w.alloc (Obj.cells #[.int .i64 K, .int .i64 S, .int .i64 L] 46)) w') → e = .returned (.bool true) ∧ Below w.heap.size w w') := Lib.hid (fun e w' ⟨h1, h2⟩ => ⟨h1, bl_then HB.out h2⟩)
  go_enter Tryz.func10, Tryz.ntmps10
  go_wp2_with (fail)
  refine HA.out.mono ?_
  rintro e w' he
  obtain ⟨rfl, hb⟩ := HF.out e w' he
  have HB2 := Lib.hid hb
  clear he hb
  go_wp2_with (fail)
  go_ret
  exact ⟨rfl, HB2.out⟩
set_option maxRecDepth 100000 in
set_option maxHeartbeats 8000000 in
theorem lists_nojob (K S L : Int) (nl : Nat) (A : Option Addr) (c : Nat) (key : ByteArray) (w : World) (h : nl ≤ 60) (hj : ∀ a, ¬ jobP (jobT K S L a 6)) : Calls Tryz.prog 10 #[.agg #[.int .i64 K, .int .i64 S, .int .i64 L], .slice A nl c, .string key] w fun e w' => e = .returned (.bool true) ∧ Below w.heap.size w w' := by
  have HN := Lib.hid (new_no (jobT K S L (some ⟨w.heap.size + 1, 0, none⟩) 6) (headW w K S L) (head_ops w K S L) (Nat.le_refl _) (by show 6 ≤ 9223372036854775807; decide) (hj _))
  have HB := Lib.hid (head_bl w K S L)
  obtain ⟨W0, hW0⟩ : ∃ W0, W0 = headW w K S L := ⟨_, rfl⟩
  have HW0 := Lib.hid hW0
  rw [← hW0] at HN HB
  unfold headW winc opc jc at HW0
  unfold jbV jobT at HN
  dsimp only [opsT, List.length_cons, List.length_nil] at HN
  clear hj hW0
  go_enter Tryz.func10, Tryz.ntmps10
  go_wp2_with (fail)
  rw [← HW0.out]
  refine HN.out.mono ?_
  rintro e w1 ⟨rfl, hb1⟩
  have HB1 := Lib.hid (bl_then HB.out hb1)
  have HAW := Lib.hid (awake_any w1)
  clear hb1
  go_wp2_with (fail)
  refine HAW.out.mono ?_
  rintro e w2 ⟨rfl, hb2⟩
  have HB2 := Lib.hid (bl_then HB1.out hb2)
  clear hb2
  go_wp2_with (fail)
  go_ret
  exact ⟨rfl, HB2.out⟩
set_option maxRecDepth 100000 in
set_option maxHeartbeats 16000000 in
theorem lists_main (K S L : Int) (l : List Ev) (A : Option Addr) (c : Nat) (key : ByteArray) (w : World) (ht : Tab w) (hE : RdE w A l) (hlc : l.length ≤ c) (hcm : c ≤ 9223372036854775807) (h1 : l.length ≤ 60) (hj : ∀ a, jobP (jobT K S L a 6)) :
    Calls Tryz.prog 10 #[.agg #[.int .i64 K, .int .i64 S, .int .i64 L], .slice A l.length c, .string key] w fun e w' => e = .returned (.bool true) ∧ Below w.heap.size w w' := by
  have hb := head_bl w K S L
  have HNEW := Lib.hid (new_st (jobT K S L (some ⟨w.heap.size + 1, 0, none⟩) 6) (headW w K S L) (head_ops w K S L) (Nat.le_refl _) (by show 6 ≤ 9223372036854775807; decide) (hj _) (ht.below hb))
  have HB := Lib.hid hb
  have HE := Lib.hid (hE.below hb)
  obtain ⟨W0, hW0⟩ : ∃ W0, W0 = headW w K S L := ⟨_, rfl⟩
  have HW0 := Lib.hid hW0
  rw [← hW0] at HNEW HB HE
  unfold headW winc opc jc at HW0
  obtain ⟨nl, hnl⟩ : ∃ nl, nl = l.length := ⟨_, rfl⟩
  rw [← hnl] at h1 hlc ⊢
  have HNL := Lib.hid hnl
  have HNEW2 : Hid (Calls Tryz.prog 14 #[.agg #[.int .i64 1, .int .i64 16, .int .i64 0, .int .i64 0, .slice (some ⟨w.heap.size + 1, 0, none⟩) 6 6]] W0 fun e w' => ∃ B A' c', e = .returned (.tuple #[.pointer (some ⟨B.bm, 0, none⟩), .int .i64 0]) ∧ Below W0.heap.size W0 w' ∧ (∀ b, S3 B b → W0.heap.size ≤ b) ∧ St w' B (jobT K S L A' c') (startQ (jobT K S L A' c')) 0) := Lib.hid (HNEW.out.mono fun e w' ⟨B, A', c', g1, g2, g3, g4, g5⟩ => ⟨B, A', c', g1, g2, g3, g5⟩)
  clear hb ht hE hW0 hj hnl HNEW
  go_enter Tryz.func10, Tryz.ntmps10
  go_wp2_with (fail)
  rw [← HW0.out]
  refine HNEW2.out.mono ?_
  rintro e w1 ⟨B, A', c', rfl, hb1, hs3, hst⟩
  obtain ⟨j', hj'⟩ : ∃ j' : Jb, j' = jobT K S L A' c' := ⟨_, rfl⟩
  have HJ' := Lib.hid hj'
  rw [← hj'] at hst
  have HST := Lib.hid hst
  have HB1 := Lib.hid hb1
  have HS3 := Lib.hid hs3
  clear hst hj' hb1 hs3
  go_wp2_with (fail)
  go_loopw [10] (fun i wr => ∃ (k : Nat) (s : QS), k ≤ nl ∧ i = .int .i64 k ∧ (∀ q, q < 6 → atO q s.2 = atO 0 s.2) ∧ St wr B j' s k ∧ Below W0.heap.size W0 wr) (fun i _ => nl - (intOf i).toNat)
  case atStart => exact ⟨0, _, Nat.zero_le _, rfl, (fun q _ => rfl), HST.out, HB1.out⟩
  case round =>
    obtain ⟨k, s, hk, rfl, hsm, hst, hbl⟩ := hrel
    by_cases hlt : k < nl
    · have hkl : k < l.length := by have := HNL.out; omega
      obtain ⟨b, off, rfl, hbw, hcell⟩ := (HE.out.below hbl).at_ (by omega)
      obtain ⟨d0, d1, d2, d3, d4⟩ := hcell k hkl
      have hem := HE.out.2 l[k] (List.getElem_mem _)
      have HD := Lib.hid (do_q tells_FT hst (by omega) l[k] hem.1 hem.2)
      have HSM : Hid (∀ q, q < 6 → atO q (goQ j' s l[k]).2 = atO 0 (goQ j' s l[k]).2) := Lib.hid (by rw [HJ'.out]; exact fun q hq => same_go hq (hsm q hq) _)
      have HBL := Lib.hid hbl
      generalize l[k] = ev at *
      obtain ⟨ek, esrc, et, ekey, evv⟩ := ev
      unfold evV ptrV at HD
      dsimp only at d0 d1 d2 d3 d4 HD
      clear hem hcell hbl hst hsm
      go_wp2_with (fail)
      refine HD.out.mono ?_
      rintro e w2 ⟨v2, rfl, ho2, hst2, hk2⟩
      have HB2 : Hid (Below W0.heap.size W0 w2) := Lib.hid (HBL.out.trans (hk2.below HBL.out.size (fun b hb => HS3.out b hb)))
      obtain ⟨s2, hs2⟩ : ∃ s2, s2 = goQ j' s ⟨ek, esrc, et, ekey, evv⟩ := ⟨_, rfl⟩
      rw [← hs2] at hst2 HSM
      have HST2 := Lib.hid hst2
      clear ho2 hk2 hs2 hst2 HD d0 d1 d2 d3 d4
      generalize codeQ j' s ⟨ek, esrc, et, ekey, evv⟩ = cd at *
      go_wp2_with (fail)
      exact ⟨⟨k + 1, s2, hlt, by push_cast; rfl, HSM.out, HST2.out, HB2.out⟩, by simp only [intOf]; omega⟩
    · have HST9 := Lib.hid hst
      have HBL := Lib.hid hbl
      have hlen6 : j'.ops.length = 6 := by rw [HJ'.out]; rfl
      have HL6 := Lib.hid hlen6
      obtain ⟨ws, hws⟩ : ∃ ws, ws = winsP s.2 ((0 : Nat) : Int) key := ⟨_, rfl⟩
      obtain ⟨vals, hvals⟩ : ∃ vals : Int × Int → List Int, vals = fun p => val1 s.2 ⟨((0 : Nat) : Int), key, p.1, p.2⟩ := ⟨_, rfl⟩
      have hop : ∀ q, q < 6 → openP j' s.2 q key = ws.map fun p => (p, FT (aggJ j' q) (vals p)) := fun q hq => by
        rw [hws, hvals, HJ'.out]
        exact open_same hq (hsm q hq) key
      have HO : Hid (∀ q, q < 6 → ∀ W, Below wr.heap.size wr W → Calls Tryz.prog 25 #[.pointer (some ⟨B.bm, 0, none⟩), .int .i64 ((q : Nat) : Int), .string key] W fun e w' => ∃ v, e = .returned (.tuple #[v, .int .i64 0]) ∧ w'.ownsRow W.heap.size 75 3 v ws.length (ctcells (ws.map fun p => (p, FT (aggJ j' q) (vals p)))) ∧ Below W.heap.size W w') := Lib.hid (fun q hq W hW => by
        have h := open_st (HST9.out.below hW) (by omega) q (by rw [HL6.out]; exact hq) key
        rw [hop q hq, List.length_map] at h
        exact h)
      have HWL : Hid (ws.length ≤ 1024) := Lib.hid (by rw [hws]; exact winsP_len hst _ key)
      have HAG : Hid (aggJ j' ((0 : Nat) : Int) = 1 ∧ aggJ j' ((1 : Nat) : Int) = 6 ∧ ∀ q : Nat, 2 ≤ q → q < 6 → aggJ j' (q : Int) = q) := Lib.hid (by
        rw [HJ'.out]
        refine ⟨rfl, rfl, fun q h2 h6 => ?_⟩
        have : q = 2 ∨ q = 3 ∨ q = 4 ∨ q = 5 := by omega
        rcases this with rfl | rfl | rfl | rfl <;> rfl)
      have HVG : Hid (∀ p ∈ ws, vals p ≠ [] ∧ (∀ x ∈ vals p, i64 x) ∧ (vals p).length ≤ 60) := Lib.hid (fun p hp => by
        rw [hws] at hp
        rw [hvals]
        have h := val_good hst.good hst.thin hp
        exact ⟨h.1, h.2.1, Nat.le_trans h.2.2 (by omega)⟩)
      have HO0 := Lib.hid (HO.out 0 (by omega) wr (Below.refl _ _))
      rw [HAG.out.1] at HO0
      have HO0' : Hid (Calls Tryz.prog 25 #[.pointer (some ⟨B.bm, 0, none⟩), .int .i64 0, .string key] wr fun e w' => ∃ v, e = .returned (.tuple #[v, .int .i64 0]) ∧ w'.ownsRow wr.heap.size 75 3 v ws.length (ctcells (ws.map fun p => (p, num (vals p).length))) ∧ Below wr.heap.size wr w') := Lib.hid HO0.out
      obtain ⟨nc, hnc⟩ : ∃ nc, nc = ws.length := ⟨_, rfl⟩
      have HNC := Lib.hid hnc
      have hncl : nc ≤ 1024 := by have := HWL.out; omega
      rw [← hnc] at HO HO0'
      clear hbl hst hsm hlen6 hws hvals hop HO0 hnc
      go_wp2_with (fail)
      refine HO0'.out.mono ?_
      rintro e w3 ⟨v3, rfl, ho3, hb3⟩
      obtain ⟨A3, c3, rfl, hc3, hm3, hr3⟩ := own_read ho3 (by decide)
      have HR3 := Lib.hid hr3
      have HB3 := Lib.hid hb3
      have HO1 := Lib.hid (HO.out 1 (by omega) w3 hb3)
      rw [HAG.out.2.1] at HO1
      have HO1' : Hid (Calls Tryz.prog 25 #[.pointer (some ⟨B.bm, 0, none⟩), .int .i64 1, .string key] w3 fun e w' => ∃ v, e = .returned (.tuple #[v, .int .i64 0]) ∧ w'.ownsRow w3.heap.size 75 3 v nc (ctcells (ws.map fun p => (p, listF (vals p)))) ∧ Below w3.heap.size w3 w') := Lib.hid HO1.out
      unfold maxLen at hm3
      clear ho3 hr3 HO1 hb3
      go_wp2_with (fail)
      refine HO1'.out.mono ?_
      rintro e w4 ⟨v4, rfl, ho4, hb4⟩
      obtain ⟨A4, c4, rfl, hc4, hm4, hr4⟩ := own_read ho4 (by decide)
      have HR4 := Lib.hid hr4
      have HB4 := Lib.hid hb4
      have HB34 : Hid (Below wr.heap.size wr w4) := Lib.hid (bl_then HB3.out hb4)
      unfold maxLen at hm4
      clear ho4 hr4 hb4
      obtain ⟨W9, hW9⟩ : ∃ W9, W9 = wr := ⟨_, rfl⟩
      subst hW9
      go_wp2_with (fail)
      go_loopw [15] (fun i wr => ∃ q : Nat, q ≤ nc ∧ i = .int .i64 q ∧ Below w4.heap.size w4 wr) (fun i _ => nc - (intOf i).toNat)
      case atStart => exact ⟨0, Nat.zero_le _, rfl, Below.refl _ _⟩
      case round =>
        obtain ⟨q, hq, rfl, hbl⟩ := hrel
        have HBQ := Lib.hid hbl
        by_cases hqlt : q < nc
        · have hqw : q < ws.length := by have := HNC.out; omega
          obtain ⟨g3, rfl, _, hg3, _, hx3⟩ := HR3.out (by omega)
          obtain ⟨g4, rfl, _, hg4, _, hx4⟩ := HR4.out (by omega)
          have hb34 : Below w3.heap.size w3 wr := bl_then HB4.out hbl
          have hgl3 : g3 < wr.heap.size := Nat.lt_of_lt_of_le hg3 hb34.size
          have hgl4 : g4 < wr.heap.size := Nat.lt_of_lt_of_le hg4 hbl.size
          have hm3 : q < (ws.map fun p => (p, num (vals p).length)).length := by rw [List.length_map]; exact hqw
          have hm4 : q < (ws.map fun p => (p, listF (vals p))).length := by rw [List.length_map]; exact hqw
          have y0 := (hb34.cell (p := ⟨g3, q * 3, none⟩) hg3).trans (hx3 _ _ (ctcells_at3 _ q hm3).1)
          have y1 := (hb34.cell (p := ⟨g3, q * 3 + 1, none⟩) hg3).trans (hx3 _ _ (ctcells_at3 _ q hm3).2.1)
          have y2 := (hb34.cell (p := ⟨g3, q * 3 + 2, none⟩) hg3).trans (hx3 _ _ (ctcells_at3 _ q hm3).2.2)
          have z0 := (hbl.cell (p := ⟨g4, q * 3, none⟩) hg4).trans (hx4 _ _ (ctcells_at3 _ q hm4).1)
          have z1 := (hbl.cell (p := ⟨g4, q * 3 + 1, none⟩) hg4).trans (hx4 _ _ (ctcells_at3 _ q hm4).2.1)
          have z2 := (hbl.cell (p := ⟨g4, q * 3 + 2, none⟩) hg4).trans (hx4 _ _ (ctcells_at3 _ q hm4).2.2)
          have z9 := hx4 _ _ (ctcells_at3 _ q hm4).2.2
          rw [List.getElem_map] at y0 y1 y2 z0 z1 z2 z9
          obtain ⟨hv1, hv2, hv3⟩ := HVG.out ws[q] (List.getElem_mem _)
          have hcm := list_comma (vals ws[q]) hv1
          have hsz := listF_size (vals ws[q]) hv2
          obtain ⟨n1, n2⟩ := num_all (vals ws[q]).length (by omega)
          have hone : cmN (listF (vals ws[q])) (listF (vals ws[q])).size = 0 → ∀ g : Nat, 2 ≤ g → g < 6 → FT (aggJ j' (g : Int)) (vals ws[q]) = listF (vals ws[q]) := fun h0 g h2 h6 => by
            rw [HAG.out.2.2 g h2 h6]
            have hl1 : (vals ws[q]).length = 1 := by rw [h0] at hcm; omega
            obtain ⟨x, hx⟩ := List.length_eq_one_iff.1 hl1
            rw [hx] at hv2 ⊢
            rw [ft_one x (hv2 x (List.mem_singleton.2 rfl)) _ (by omega) (by omega)]
            exact (ft_one x (hv2 x (List.mem_singleton.2 rfl)) 6 (by omega) (by omega)).symm
          have HONE : Hid (cmN (listF (vals ws[q])) (listF (vals ws[q])).size = 0 → ∀ g : Nat, 2 ≤ g → g < 6 → ∀ W, Below w4.heap.size w4 W → Calls Tryz.prog 25 #[.pointer (some ⟨B.bm, 0, none⟩), .int .i64 (g : Int), .string key] W fun e w' => ∃ g5 c5, e = .returned (.tuple #[.slice (some ⟨g5, 0, none⟩) nc c5, .int .i64 0]) ∧ nc ≤ c5 ∧ c5 ≤ 9223372036854775807 ∧ g5 < w'.heap.size ∧ w'.cell? ⟨g5, q * 3 + 2, none⟩ = some (.string (listF (vals ws[q]))) ∧ Below W.heap.size W w') := Lib.hid (fun h0 g h2 h6 W hW => by
            refine (HO.out g h6 W (bl_then HB34.out hW)).mono ?_
            rintro e w5 ⟨v5, rfl, ho5, hb5⟩
            obtain ⟨A5, c5, rfl, hc5, hm5, hr5⟩ := own_read ho5 (by decide)
            obtain ⟨g5, rfl, _, hg5, _, hx5⟩ := hr5 (by omega)
            have hm6 : q < (ws.map fun p => (p, FT (aggJ j' (g : Int)) (vals p))).length := by rw [List.length_map]; exact hqw
            have u2 := hx5 _ _ (ctcells_at3 _ q hm6).2.2
            rw [List.getElem_map, hone h0 g h2 h6] at u2
            exact ⟨g5, c5, rfl, hc5, hm5, hg5, u2, hb5⟩)
          have HCM := Lib.hid hcm
          have HNB := Lib.hid (fun W => numb_any (num (vals ws[q]).length) n1 W)
          rw [n2] at HNB
          obtain ⟨tx, htx⟩ : ∃ tx, tx = listF (vals ws[q]) := ⟨_, rfl⟩
          obtain ⟨ta, hta⟩ : ∃ ta, ta = num (vals ws[q]).length := ⟨_, rfl⟩
          obtain ⟨vl, hvl⟩ : ∃ vl, vl = (vals ws[q]).length := ⟨_, rfl⟩
          rw [← htx] at z2 z9 HCM HONE hsz
          have HZ9 := Lib.hid z9
          rw [← hta] at y2 HNB
          rw [← hvl] at HCM HNB hv3
          generalize ws[q] = p at *
          obtain ⟨pf, pt⟩ := p
          dsimp only at y0 y1 y2 z0 z1 z2
          clear z9 hx3 hx4 hone hcm hv1 hv2 n1 n2 hbl hb34 htx hta hvl hm3 hm4
          obtain ⟨WQ, hWQ⟩ : ∃ WQ, WQ = wr := ⟨_, rfl⟩
          subst hWQ
          go_wp2_with (fail)
          go_loopw [16, 17] (fun cm i wr => ∃ k : Nat, k ≤ tx.size ∧ i = .int .i64 k ∧ cm = .int .i64 (cmN tx k : Nat) ∧ wr = WQ) (fun _ i _ => tx.size - (intOf i).toNat)
          case atStart => exact ⟨0, Nat.zero_le _, rfl, rfl, rfl⟩
          case round =>
            obtain ⟨k, hk, rfl, rfl, rfl⟩ := hrel
            have hcle := cmN_le tx k
            by_cases hklt : k < tx.size
            · have hbg := bAt_get hklt
              have hstep : cmN tx (k + 1) = cmN tx k + if bAt tx k = 44 then 1 else 0 := rfl
              have HSTEP := Lib.hid hstep
              rw [hbg] at HSTEP
              clear hstep
              generalize cmN tx k = cm at *
              by_cases h44 : (tx[k]).toNat = 44
              · have hn44 : cmN tx (k + 1) = cm + 1 := by rw [HSTEP.out, if_pos h44]
                have HN44 := Lib.hid hn44
                have hq44 : ((((tx[k]).toNat : Nat) : Int) == (44 : Int)) = true := by rw [h44]; rfl
                clear hn44 h44 hbg
                go_wp2_with (fail)
                exact ⟨⟨k + 1, hklt, by push_cast; rfl, by rw [HN44.out]; push_cast; rfl, trivial⟩, by simp only [intOf]; omega⟩
              · have hn44 : cmN tx (k + 1) = cm := by rw [HSTEP.out, if_neg h44]; rfl
                have HN44 := Lib.hid hn44
                have hq44 : ((((tx[k]).toNat : Nat) : Int) == (44 : Int)) = false := by
                  rw [beq_eq_false_iff_ne]
                  intro h; exact h44 (by omega)
                clear hn44 h44 hbg
                go_wp2_with (fail)
                exact ⟨⟨k + 1, hklt, by push_cast; rfl, by rw [HN44.out], trivial⟩, by simp only [intOf]; omega⟩
            · have hke : k = tx.size := by omega
              subst hke
              have hmin : min (vl : Int) 64 = (cmN tx tx.size : Int) + 1 := by have := HCM.out; omega
              generalize cmN tx tx.size = cm at *
              have yy0 := ext_cell y0
              have yy1 := ext_cell y1
              have yy2 := ext_cell y2
              have zz0 := ext_cell z0
              have zz1 := ext_cell z1
              have HNX : Hid (∀ x : Ext wr, Calls Tryz.prog 19 #[.string ta] x.val fun e w' => e = .returned (.int .i64 vl) ∧ x.val = w') := Lib.hid (fun x => HNB.out x.val)
              clear y0 y1 y2 z0 z1
              go_wp2_with (fail)
              refine wp_region_ext (by kernel_rfl) (by kernel_rfl) ?_
              repeat (go_big_quiet_step ((go_at_call 19; exact ext_calls_same (HNX.out _))))
              refine wpQuiet_nil ?_
              rintro w9 ⟨⟨w8, hb9⟩, rfl⟩
              have HB9 := Lib.hid (bl_then HBQ.out hb9)
              clear hb9 yy0 yy1 yy2 zz0 zz1 z2 HNX
              go_wp2_with (fail)
              go_loopw [18] (fun i wr => ∃ g : Nat, 2 ≤ g ∧ g ≤ 6 ∧ i = .int .i64 g ∧ Below w4.heap.size w4 wr) (fun i _ => 6 - (intOf i).toNat)
              case atStart => exact ⟨2, Nat.le_refl _, by decide, rfl, HB9.out⟩
              case round =>
                obtain ⟨g, hg2, hg6, rfl, hbg⟩ := hrel
                have HBG := Lib.hid hbg
                by_cases hglt : g < 6
                · by_cases hcm0 : cm = 0
                  · have hq0 : ((cm : Int) == (0 : Int)) = true := by rw [hcm0]; rfl
                    have HO5 := Lib.hid (HONE.out hcm0 g hg2 hglt wr hbg)
                    have z2r := (hbg.cell (p := ⟨g4, q * 3 + 2, none⟩) hg4).trans HZ9.out
                    have hgr4 : g4 < wr.heap.size := Nat.lt_of_lt_of_le hg4 hbg.size
                    clear hbg hcm0
                    go_wp2_with (fail)
                    refine HO5.out.mono ?_
                    rintro e w5 ⟨g5, c5, rfl, hc5, hm5, hg5, u2, hb5⟩
                    have z25 := (hb5.cell (p := ⟨g4, q * 3 + 2, none⟩) hgr4).trans z2r
                    have hg45 : g4 < w5.heap.size := Nat.lt_of_lt_of_le hgr4 hb5.size
                    have HB5 := Lib.hid (bl_then HBG.out hb5)
                    have xu2 := ext_cell u2
                    have xz := ext_cell z25
                    clear hb5 z2r u2 z25
                    go_wp2_with (fail)
                    refine wp_region_ext (by kernel_rfl) (by kernel_rfl) ?_
                    repeat (go_big_quiet_step (fail))
                    refine wpQuiet_nil ?_
                    rintro w9 ⟨⟨w8, hb9⟩, rfl⟩
                    have HB6 := Lib.hid (bl_then HB5.out hb9)
                    clear hb9 xu2 xz
                    go_wp2_with (fail)
                    exact ⟨⟨g + 1, by omega, hglt, by push_cast; rfl, HB6.out⟩, by simp only [intOf]; omega⟩
                  · have hq0 : ((cm : Int) == (0 : Int)) = false := by
                      rw [beq_eq_false_iff_ne]
                      omega
                    clear hbg
                    go_wp2_with (fail)
                    exact ⟨⟨q + 1, hqlt, by push_cast; rfl, HBG.out⟩, by simp only [intOf]; omega⟩
                · clear hbg
                  go_wp2_with (fail)
                  exact ⟨⟨q + 1, hqlt, by push_cast; rfl, HBG.out⟩, by simp only [intOf]; omega⟩
        · have hqe : q = nc := by omega
          subst hqe
          have HAW := Lib.hid (awake_any wr)
          clear hbl
          go_wp2_with (fail)
          refine HAW.out.mono ?_
          rintro e w7 ⟨rfl, hb7⟩
          have HB7 := Lib.hid (bl_then HB.out (bl_then HBL.out (bl_then HB34.out (bl_then HBQ.out hb7))))
          clear hb7
          go_wp2_with (fail)
          go_ret
          exact ⟨rfl, HB7.out⟩
/-- ModelLists, walked. -/
theorem mlists_law (K S L : Int) (l : List Ev) (A : Option Addr) (c : Nat) (key : ByteArray) (w : World) (ht : Tab w) (hE : RdE w A l) (hlc : l.length ≤ c) (hcm : c ≤ 9223372036854775807) :
    Calls Tryz.prog 10 #[.agg #[.int .i64 K, .int .i64 S, .int .i64 L], .slice A l.length c, .string key] w fun e w' => e = .returned (.bool true) ∧ Below w.heap.size w w' := by
  by_cases h : 60 < l.length
  · exact lists_early K S L _ A c key w h
  · by_cases hj : jobP (jobT K S L none 6)
    · exact lists_main K S L l A c key w ht hE hlc hcm (by omega) fun a => hj
    · exact lists_nojob K S L _ A c key w (by omega) fun a => hj
end Go.Proofs.YtfojblbnhapedaaGreatDoor
namespace Go.Proofs.YtfojblbnhapedaaGreatDoor
open Go.ChangeShapes Go.WideShapes Go.ChangeAt Go.RowKit Go.Joins
set_option linter.unusedVariables false
set_option linter.unusedSimpArgs false
theorem wcells3 {α : Type} {cs : Array α} (h : cs.size = 3) : ∃ c0 c1 c2, cs = #[c0, c1, c2] := by
  obtain ⟨l⟩ := cs
  match l, h with
  | [c0, c1, c2], _ => exact ⟨c0, c1, c2, rfl⟩
section
variable {H : Type} {enc : TypeId × Value → H} {w : World} {base : Nat} {sp : Nat → Bool} {held : Bool}
set_option maxRecDepth 100000 in
theorem open_win {r : Reach} {b0 : Nat} {v : Value} {d : DataW H} {p : List MemPlace} (hv : Value.okWide Tryz.prog w r b0 46 v) (h : DataW.Trod enc Tryz.prog w base sp held 46 v d p) : ∃ a b c : Int, v = .agg #[.int .i64 a, .int .i64 b, .int .i64 c] := by
  obtain ⟨cs, rfl, hsz⟩ := okWide_struct Tryz.underlying46 hv
  obtain ⟨c0, c1, c2, rfl⟩ := wcells3 (hsz.trans (by kernel_rfl))
  obtain ⟨fuel, hf⟩ := h
  obtain ⟨xs, n, _, _, _, hlen, hx⟩ := DataW.trod_struct Tryz.underlying46 hf
  match xs, hlen, hx with
  | [y0, y1, y2], _, hx =>
    have h0 := hx 0 _ rfl
    have h1 := hx 1 _ rfl
    have h2 := hx 2 _ rfl
    have q2 : Tryz.prog.cellsOf 2 = 1 := by kernel_rfl
    have q3 : Tryz.prog.cellsOf 3 = 1 := by kernel_rfl
    obtain ⟨a0, e0, _, _⟩ := DataW.trod_int Tryz.underlying3 h0
    obtain ⟨a1, e1, _, _⟩ := DataW.trod_int Tryz.underlying2 h1
    obtain ⟨a2, e2, _, _⟩ := DataW.trod_int Tryz.underlying2 h2
    have e0' : List.take (Tryz.prog.cellsOf 3) (List.drop 0 [c0, c1, c2]) = [.int .i64 a0] := e0
    rw [q3] at e0'
    have g0 : c0 = .int .i64 a0 := by simpa using e0'
    have e1' : List.take (Tryz.prog.cellsOf 2) (List.drop 1 [c0, c1, c2]) = [.int .i64 a1] := e1
    rw [q2] at e1'
    have g1 : c1 = .int .i64 a1 := by simpa using e1'
    have e2' : List.take (Tryz.prog.cellsOf 2) (List.drop 2 [c0, c1, c2]) = [.int .i64 a2] := e2
    rw [q2] at e2'
    have g2 : c2 = .int .i64 a2 := by simpa using e2'
    subst g0 g1 g2
    exact ⟨a0, a1, a2, rfl⟩
end
end Go.Proofs.YtfojblbnhapedaaGreatDoor
