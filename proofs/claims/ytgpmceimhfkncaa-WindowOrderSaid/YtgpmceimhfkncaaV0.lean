/- Plain facts on texts of windows: what is read of them, and their order. Conditions: as each theorem states them. -/
import Derived.Test.YtgpmceimhfkncaaU3
import Derived.Test.YtgpmceimhfkncaaG1
namespace Go.Proofs.Ytgpmceimhfkncaa.WT
open Go.RowKit Go.Proofs.Ytgpmceimhfkncaa Go.Proofs.YtgpmceimhfkncaaW.PrintWords
set_option linter.unusedVariables false
set_option linter.unusedSimpArgs false

def Byt (xs : List Int) : Prop := ∀ x ∈ xs, 0 ≤ x ∧ x < 256
theorem ord8_byt (u : Int) : Byt (ord8 u) := by
  intro x hx
  simp only [ord8, List.mem_cons, List.not_mem_nil, or_false] at hx
  omega
theorem bt_str (xs : List Int) (h : Byt xs) (j : Nat) (hj : j < xs.length) : bt (strOfNums xs) j = xs[j] := by
  have hx := h (xs[j]) (List.getElem_mem _)
  unfold bt
  rw [dif_pos (by rw [str_size]; simpa using hj)]
  simp [strOfNums, ByteArray.getElem_eq_getElem_data]
  omega
theorem str_app (xs ys : List Int) : strOfNums xs ++ strOfNums ys = strOfNums (xs ++ ys) := by
  apply ByteArray.ext
  rw [ByteArray.data_append]
  simp [strOfNums]
theorem hor_val (s : ByteArray) (u : Int) (h0 : 0 ≤ u) (h1 : u < 18446744073709551616) (hb : ∀ j : Nat, (hj : j < 8) → bt s j = (ord8 u)[j]'(by simpa [ord8] using hj)) : hor s 8 = u := by
  have b0 := hb 0 (by omega)
  have b1 := hb 1 (by omega)
  have b2 := hb 2 (by omega)
  have b3 := hb 3 (by omega)
  have b4 := hb 4 (by omega)
  have b5 := hb 5 (by omega)
  have b6 := hb 6 (by omega)
  have b7 := hb 7 (by omega)
  simp only [ord8, List.getElem_cons_zero, List.getElem_cons_succ] at b0 b1 b2 b3 b4 b5 b6 b7
  have h1' : hor s 1 = u / 72057594037927936 := by simp only [hor]; rw [b0]; omega
  have h2 : hor s 2 = u / 281474976710656 := by show (hor s 1 * 256) % 18446744073709551616 + bt s (1 : Nat) = _; rw [h1', b1]; omega
  have h3 : hor s 3 = u / 1099511627776 := by show (hor s 2 * 256) % 18446744073709551616 + bt s (2 : Nat) = _; rw [h2, b2]; omega
  have h4 : hor s 4 = u / 4294967296 := by show (hor s 3 * 256) % 18446744073709551616 + bt s (3 : Nat) = _; rw [h3, b3]; omega
  have h5 : hor s 5 = u / 16777216 := by show (hor s 4 * 256) % 18446744073709551616 + bt s (4 : Nat) = _; rw [h4, b4]; omega
  have h6 : hor s 6 = u / 65536 := by show (hor s 5 * 256) % 18446744073709551616 + bt s (5 : Nat) = _; rw [h5, b5]; omega
  have h7 : hor s 7 = u / 256 := by show (hor s 6 * 256) % 18446744073709551616 + bt s (6 : Nat) = _; rw [h6, b6]; omega
  show (hor s 7 * 256) % 18446744073709551616 + bt s (7 : Nat) = _
  rw [h7, b7]; omega
theorem ordV_txt (s : ByteArray) (n : Int) (hn : -9223372036854775808 ≤ n ∧ n ≤ 9223372036854775807) (hb : ∀ j : Nat, (hj : j < 8) → bt s j = (ord8 (uN n))[j]'(by simpa [ord8] using hj)) : ordV s = n := by
  have hu := uN_lt n
  unfold ordV
  rw [hor_val s (uN n) hu.1 hu.2 hb]
  unfold wrap64 uN
  omega
theorem read_text (a : Int × Int) (hm : mayB a = true) : readV (txt a.1 ++ txt a.2) = (a.1, a.2, 0) := by
  have hbd := may_bd.1 hm
  have hz : (txt a.1 ++ txt a.2).size = 16 := by rw [ByteArray.size_append, txt_size, txt_size]
  have e : txt a.1 ++ txt a.2 = strOfNums (ord8 (uN a.1) ++ ord8 (uN a.2)) := str_app _ _
  have hB : Byt (ord8 (uN a.1) ++ ord8 (uN a.2)) := fun x hx => by
    rcases List.mem_append.1 hx with h | h
    · exact ord8_byt _ x h
    · exact ord8_byt _ x h
  have h1 : ordV (txt a.1 ++ txt a.2) = a.1 := ordV_txt _ _ (by omega) (fun j hj => by
    rw [e, bt_str _ hB j (by simp [ord8]; omega), List.getElem_append_left])
  have e2 : (txt a.1 ++ txt a.2).extract 8 (txt a.1 ++ txt a.2).size = txt a.2 := by
    have h8 := txt_size a.1
    rw [hz, ← h8]
    have : 16 = (txt a.1).size + (txt a.2).size := by rw [txt_size, txt_size]
    apply ByteArray.ext
    rw [ByteArray.data_extract, ByteArray.data_append]
    have h8' : (txt a.1).data.size = (txt a.1).size := rfl
    have h16' : (txt a.2).data.size = 8 := txt_size a.2
    rw [Array.extract_append]
    simp [h8', h8, h16', Array.extract_eq_empty_of_le]
  have h2 : ordV (txt a.2) = a.2 := ordV_txt _ _ (by omega) (fun j hj => by
    rw [txt, bt_str _ (ord8_byt _) j (by simp [ord8]; omega)])
  unfold readV
  rw [if_pos hz, e2, h1, h2, if_pos hm]

/-! ### Order -/
def val : List Int → Int
  | [] => 0
  | x :: xs => x * 256 ^ xs.length + val xs
theorem val_bd : ∀ xs, Byt xs → 0 ≤ val xs ∧ val xs < 256 ^ xs.length
  | [], _ => by simp [val]
  | x :: xs, h => by
    have ih := val_bd xs (fun y hy => h y (List.mem_cons_of_mem _ hy))
    have hx := h x List.mem_cons_self
    have h1 := Int.mul_le_mul_of_nonneg_right (show x + 1 ≤ 256 by omega) (show (0 : Int) ≤ 256 ^ xs.length by omega)
    have h2 := Int.mul_nonneg hx.1 (show (0 : Int) ≤ 256 ^ xs.length by omega)
    rw [Int.add_mul, Int.one_mul] at h1
    simp only [val, List.length_cons, Int.pow_succ]
    rw [Int.mul_comm (256 ^ xs.length) 256]
    omega
def b8 (n : Int) : UInt8 := UInt8.ofNat n.toNat
theorem b8_lt {a b : Int} (ha : 0 ≤ a ∧ a < 256) (hb : 0 ≤ b ∧ b < 256) : (b8 a < b8 b ↔ a < b) ∧ (b8 a = b8 b ↔ a = b) := by
  have e1 : (b8 a).toNat = a.toNat := by simp [b8]; omega
  have e2 : (b8 b).toNat = b.toNat := by simp [b8]; omega
  rw [UInt8.lt_iff_toNat_lt, ← UInt8.toNat_inj, e1, e2]
  omega
theorem less_val : ∀ (xs ys : List Int), xs.length = ys.length → Byt xs → Byt ys → ∀ (r r' : List UInt8),
    Op.bytesLess (xs.map b8 ++ r) (ys.map b8 ++ r') = (decide (val xs < val ys) || (decide (val xs = val ys) && Op.bytesLess r r'))
  | [], [], _, _, _, r, r' => by simp [val]
  | x :: xs, y :: ys, hl, hx, hy, r, r' => by
    have hl' : xs.length = ys.length := by simpa using hl
    have hx' : Byt xs := fun z hz => hx z (List.mem_cons_of_mem _ hz)
    have hy' : Byt ys := fun z hz => hy z (List.mem_cons_of_mem _ hz)
    have ih := less_val xs ys hl' hx' hy' r r'
    have v1 := val_bd xs hx'
    have v2 := val_bd ys hy'
    have c := b8_lt (hx x List.mem_cons_self) (hy y List.mem_cons_self)
    rw [hl'] at v1
    simp only [List.map_cons, List.cons_append, Op.bytesLess, val, ih, hl']
    generalize (256 : Int) ^ ys.length = p at *
    rcases Int.lt_trichotomy x y with h | h | h
    · have h1 := Int.mul_le_mul_of_nonneg_right (show x + 1 ≤ y by omega) (show (0 : Int) ≤ p by omega)
      rw [Int.add_mul, Int.one_mul] at h1
      have h2 : x * p + val xs < y * p + val ys := by omega
      simp [c.1.2 h, h2]
    · subst h
      have h3 : ¬ b8 x < b8 x := fun hc => by have := c.1.1 hc; omega
      have h4 : (x * p + val xs < x * p + val ys) ↔ val xs < val ys := by omega
      have h5 : (x * p + val xs = x * p + val ys) ↔ val xs = val ys := by omega
      simp [h3, h4, h5]
    · have h1 := Int.mul_le_mul_of_nonneg_right (show y + 1 ≤ x by omega) (show (0 : Int) ≤ p by omega)
      rw [Int.add_mul, Int.one_mul] at h1
      have h2 : ¬ x * p + val xs < y * p + val ys := by omega
      have h3 : ¬ x * p + val xs = y * p + val ys := by omega
      have h4 : ¬ b8 x < b8 y := fun hc => by have := c.1.1 hc; omega
      have h5 : ¬ b8 x = b8 y := fun hc => by have := c.2.1 hc; omega
      simp [h2, h3, h4, h5]
theorem val_ord8 (u : Int) (h0 : 0 ≤ u) (h1 : u < 18446744073709551616) : val (ord8 u) = u := by
  simp [val, ord8]
  omega
theorem less_text (a b : Int × Int) (ha : mayB a = true) (hb : mayB b = true) : Op.bytesLess (txt a.1 ++ txt a.2).toList (txt b.1 ++ txt b.2).toList = (decide (a.1 < b.1) || (decide (a.1 = b.1) && decide (a.2 < b.2))) := by
  have e : ∀ c : Int × Int, (txt c.1 ++ txt c.2).toList = (ord8 (uN c.1)).map b8 ++ ((ord8 (uN c.2)).map b8 ++ []) := by
    intro c
    rw [ByteArray.toList_eq, txt, txt, str_app]
    simp [strOfNums]
    rfl
  rw [e, e, less_val (ord8 (uN a.1)) (ord8 (uN b.1)) rfl (ord8_byt _) (ord8_byt _), less_val (ord8 (uN a.2)) (ord8 (uN b.2)) rfl (ord8_byt _) (ord8_byt _)]
  have u1 := uN_lt a.1
  have u2 := uN_lt a.2
  have u3 := uN_lt b.1
  have u4 := uN_lt b.2
  rw [val_ord8 _ u1.1 u1.2, val_ord8 _ u2.1 u2.2, val_ord8 _ u3.1 u3.2, val_ord8 _ u4.1 u4.2]
  have ha := may_bd.1 ha
  have hb := may_bd.1 hb
  have f1 : uN a.1 = a.1 + 9223372036854775808 := by unfold uN; omega
  have f2 : uN a.2 = a.2 + 9223372036854775808 := by unfold uN; omega
  have f3 : uN b.1 = b.1 + 9223372036854775808 := by unfold uN; omega
  have f4 : uN b.2 = b.2 + 9223372036854775808 := by unfold uN; omega
  rw [f1, f2, f3, f4]
  simp [Op.bytesLess]
end Go.Proofs.Ytgpmceimhfkncaa.WT
