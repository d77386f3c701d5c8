/- The printed answers of PutOrd, Ord, Text and Read, in plain numbers and bytes. Conditions: as each theorem states them. -/
import Derived.Test.YtgpmceimhfkncaaU1
namespace Go.Proofs.Ytgpmceimhfkncaa.WT
open Go.RowKit Go.Proofs.Ytgpmceimhfkncaa Go.Proofs.Ytgpmceimhfkncaa.PWindowText Go.Proofs.YtgpmceimhfkncaaW.PrintWords Go.Proofs.YtgpmceimhfkncaaW.PrintLast Go.Proofs.YtgpmceimhfkncaaW.PrintMore
set_option linter.unusedVariables false
set_option linter.unusedSimpArgs false

/-- A time as the number whose bytes are written. -/
def uN (n : Int) : Int := (n % 18446744073709551616 + 9223372036854775808) % 18446744073709551616
theorem uN_lt (n : Int) : 0 ≤ uN n ∧ uN n < 18446744073709551616 := by unfold uN; omega
theorem uN_bits (n : Int) : Go.bits BinOp.xor IntKind.u64 (IntKind.u64.wrap n) 9223372036854775808 = uN n := by
  rw [IntKind.wrap_u64, xor_wrap _ (by omega) (by omega)]
  rfl
def txt (n : Int) : ByteArray := strOfNums (ord8 (uN n))
theorem putord_any (n : Int) (w : World) : Calls Try.prog 33 #[.int .i64 n] w fun e w' => e = .returned (.string (txt n)) ∧ Below w.heap.size w w' := by
  have := putord n w
  rw [uN_bits] at this
  exact this
theorem str_cons (a : Int) (xs : List Int) : strOfNums [a] ++ strOfNums xs = strOfNums (a :: xs) := by
  apply ByteArray.ext
  rw [ByteArray.data_append]
  simp [strOfNums]
theorem str_nil : (⟨#[]⟩ : ByteArray) = strOfNums [] := rfl
theorem str_size (xs : List Int) : (strOfNums xs).size = xs.length := by simp [strOfNums, ByteArray.size]
theorem put_step (k : Nat) (x : Int) (xs : List Int) (i : Int) (h0 : 0 ≤ x) (h1 : x < 18446744073709551616) (hi : 0 ≤ i) (hi8 : i < 8) (hl : xs.length ≤ 8) :
    freshetref02_PutOrd.l0 (k + 1) x (strOfNums xs) i = freshetref02_PutOrd.l0 k (x / 256) (strOfNums (x % 256 :: xs)) (i + 1) := by
  simp only [freshetref02_PutOrd.l0, Option.bind_some]
  rw [if_pos hi8, if_pos (by rw [str_size, str_size]; simp; omega), Int.tdiv_eq_ediv_of_nonneg h0, Int.tmod_eq_emod_of_nonneg h0, str_cons, IntKind.wrap_u64]
  rw [show x / 256 % 18446744073709551616 = x / 256 by omega, show x % 256 % 256 = x % 256 by omega, show wrap64 (i + 1) = i + 1 by unfold wrap64; omega]
theorem put_ref (n : Int) : freshetref02_PutOrd.f 9 n = some (txt n) := by
  have hu := uN_lt n
  unfold freshetref02_PutOrd.f txt
  rw [IntKind.wrap_u64, IntKind.wrap_u64, str_nil, show (n % 18446744073709551616 + 9223372036854775808) % 18446744073709551616 = uN n from rfl]
  generalize uN n = u at *
  rw [put_step _ _ _ _ (by omega) (by omega) (by omega) (by omega) (by simp), put_step _ _ _ _ (by omega) (by omega) (by omega) (by omega) (by simp), put_step _ _ _ _ (by omega) (by omega) (by omega) (by omega) (by simp), put_step _ _ _ _ (by omega) (by omega) (by omega) (by omega) (by simp),
    put_step _ _ _ _ (by omega) (by omega) (by omega) (by omega) (by simp), put_step _ _ _ _ (by omega) (by omega) (by omega) (by omega) (by simp), put_step _ _ _ _ (by omega) (by omega) (by omega) (by omega) (by simp), put_step _ _ _ _ (by omega) (by omega) (by omega) (by omega) (by simp)]
  simp only [freshetref02_PutOrd.l0]
  rw [if_neg (by omega)]
  have e2 : u / 256 / 256 = u / 65536 := by omega
  have e3 : u / 65536 / 256 = u / 16777216 := by omega
  have e4 : u / 16777216 / 256 = u / 4294967296 := by omega
  have e5 : u / 4294967296 / 256 = u / 1099511627776 := by omega
  have e6 : u / 1099511627776 / 256 = u / 281474976710656 := by omega
  have e7 : u / 281474976710656 / 256 = u / 72057594037927936 := by omega
  rw [e2, e3, e4, e5, e6, e7]
  rfl

/-! ### Ord -/
def hor (s : ByteArray) : Nat → Int
  | 0 => 0
  | j + 1 => (hor s j * 256) % 18446744073709551616 + bt s j
theorem hor_bd (s : ByteArray) : ∀ j, 0 ≤ hor s j ∧ hor s j < 18446744073709551616
  | 0 => by simp [hor]
  | j + 1 => by
    have := hor_bd s j
    have := bt_range s j
    simp only [hor]
    omega
def ordV (s : ByteArray) : Int := wrap64 ((hor s 8 + 9223372036854775808) % 18446744073709551616)
theorem code_loop (s : ByteArray) (h8 : 8 ≤ s.size) (d : Nat) : ∀ j, j ≤ 8 → 8 - j = d → code_Ord.l0 (d + 1) s (hor s j) (j : Int) = some (ordV s, 0) := by
  induction d with
  | zero =>
    intro j hj hd
    obtain rfl : j = 8 := by omega
    have := hor_bd s 8
    simp only [code_Ord.l0]
    rw [if_neg (by omega), xor_wrap _ (by omega) (by omega)]
    rfl
  | succ d ih =>
    intro j hj hd
    have hb := hor_bd s j
    have hr := bt_range s j
    have e : code_Ord.l0 (d + 1 + 1) s (hor s j) (j : Int) = code_Ord.l0 (d + 1) s (hor s (j + 1)) ((j + 1 : Nat) : Int) := by
      conv => lhs; unfold code_Ord.l0
      rw [if_pos (by omega), if_pos (by omega), if_pos (by omega), IntKind.wrap_u64, IntKind.wrap_u64, show bt s j % 18446744073709551616 = bt s j by omega, or_wrap _ _ (by omega) (by omega) (by omega), show wrap64 ((j : Int) + 1) = ((j + 1 : Nat) : Int) by unfold wrap64; omega]
      rfl
    rw [e]
    exact ih (j + 1) (by omega) (by omega)
theorem ref_loop (s : ByteArray) (h8 : 8 ≤ s.size) (d : Nat) : ∀ j, j ≤ 8 → 8 - j = d → freshetref02_Ord.l0 (d + 1) s (hor s j) (j : Int) = some (ordV s, 0) := by
  induction d with
  | zero =>
    intro j hj hd
    obtain rfl : j = 8 := by omega
    have := hor_bd s 8
    simp only [freshetref02_Ord.l0]
    rw [if_neg (by omega), IntKind.wrap_u64, show (hor s 8 - 9223372036854775808) % 18446744073709551616 = (hor s 8 + 9223372036854775808) % 18446744073709551616 by omega]
    rfl
  | succ d ih =>
    intro j hj hd
    have hb := hor_bd s j
    have hr := bt_range s j
    have e : freshetref02_Ord.l0 (d + 1 + 1) s (hor s j) (j : Int) = freshetref02_Ord.l0 (d + 1) s (hor s (j + 1)) ((j + 1 : Nat) : Int) := by
      conv => lhs; unfold freshetref02_Ord.l0
      rw [if_pos (by omega), if_pos (by omega), if_pos (by omega), IntKind.wrap_u64, IntKind.wrap_u64, IntKind.wrap_u64, show bt s j % 18446744073709551616 = bt s j by omega,
        show (hor s j * 256 % 18446744073709551616 + bt s j) % 18446744073709551616 = hor s j * 256 % 18446744073709551616 + bt s j by omega, show wrap64 ((j : Int) + 1) = ((j + 1 : Nat) : Int) by unfold wrap64; omega]
      rfl
    rw [e]
    exact ih (j + 1) (by omega) (by omega)
theorem code_val (s : ByteArray) (h8 : 8 ≤ s.size) : code_Ord.f 9 s = some (ordV s, 0) := by
  unfold code_Ord.f
  rw [if_neg (by omega)]
  exact code_loop s h8 8 0 (by omega) rfl
theorem ref_val (s : ByteArray) (h8 : 8 ≤ s.size) : freshetref02_Ord.f 9 s = some (ordV s, 0) := by
  unfold freshetref02_Ord.f
  rw [if_neg (by omega)]
  exact ref_loop s h8 8 0 (by omega) rfl
theorem hor_same {s s' : ByteArray} (h : ∀ j : Nat, j < 8 → bt s j = bt s' j) : ∀ j, j ≤ 8 → hor s j = hor s' j
  | 0, _ => rfl
  | j + 1, hj => by simp only [hor]; rw [hor_same h j (by omega), h j (by omega)]
theorem ordV_same {s s' : ByteArray} (h : ∀ j : Nat, j < 8 → bt s j = bt s' j) : ordV s = ordV s' := by unfold ordV; rw [hor_same h 8 (by omega)]

/-! ### Text, Read -/
theorem may_w (a b : Int) : window_may.f a b = some (mayB (a, b)) := by
  unfold window_may.f mayB
  by_cases h1 : a < b
  · by_cases h2 : a ≥ -2251799813685248
    · rw [if_pos h1, if_pos h2]; simp [h1]; omega
    · rw [if_pos h1, if_neg h2]; simp [h1]; omega
  · rw [if_neg h1]; simp [h1]
theorem may_r (a b : Int) : freshetref21_May.f a b = some (mayB (a, b)) := by
  unfold freshetref21_May.f mayB
  by_cases h1 : a < b
  · by_cases h2 : a ≥ -2251799813685248
    · rw [if_pos h1, if_pos h2]; simp [h1]; omega
    · rw [if_pos h1, if_neg h2]; simp [h1]; omega
  · rw [if_neg h1]; simp [h1]
def textV (x : Int × Int) : ByteArray × Int := if mayB x then (txt x.1 ++ txt x.2, 0) else (⟨#[]⟩, 2)
theorem txt_size (n : Int) : (txt n).size = 8 := by rw [txt, str_size]; rfl
theorem text_ref (a b : Int) : freshetref21_Text.f 9 a b = some (textV (a, b)) := by
  unfold freshetref21_Text.f textV
  rw [may_r]
  simp only [Option.bind_some]
  cases mayB (a, b)
  · rfl
  · rw [put_ref, put_ref]
    simp only [Option.bind_some, if_true]
    rw [if_pos (by rw [txt_size, txt_size]; omega)]
def readV (s : ByteArray) : Int × Int × Int := if s.size = 16 then (if mayB (ordV s, ordV (s.extract 8 s.size)) then (ordV s, ordV (s.extract 8 s.size), 0) else (0, 0, 7)) else (0, 0, 7)
theorem bt_front (s : ByteArray) (h : s.size = 16) (j : Nat) (hj : j < 8) : bt (s.extract 0 8) j = bt s j := by
  have h1 : (s.extract 0 8).size = 8 := by rw [ByteArray.size_extract]; omega
  unfold bt
  rw [dif_pos (by simp; omega), dif_pos (by simp; omega)]
  simp [ByteArray.getElem_extract]
theorem read_w (s : ByteArray) : window_Read.f 9 s = some (readV s) := by
  unfold window_Read.f readV
  by_cases h : s.size = 16
  · have h1 : (s.extract 8 s.size).size = 8 := by rw [ByteArray.size_extract]; omega
    rw [if_pos (by omega), if_pos h, code_val s (by omega)]
    simp only [Option.bind_some]
    rw [if_pos (by omega), code_val _ (by omega)]
    simp only [Option.bind_some, may_w]
    cases mayB (ordV s, ordV (s.extract 8 s.size)) <;> rfl
  · rw [if_neg (by omega), if_neg h]
theorem read_r (s : ByteArray) : freshetref21_Read.f 9 s = some (readV s) := by
  unfold freshetref21_Read.f readV
  by_cases h : s.size = 16
  · have h1 : (s.extract 8 s.size).size = 8 := by rw [ByteArray.size_extract]; omega
    have h2 : (s.extract 0 8).size = 8 := by rw [ByteArray.size_extract]; omega
    rw [if_pos (by omega), if_pos (by omega), if_pos (by omega), if_pos h, ref_val (s.extract 0 8) (by omega), ordV_same (fun j hj => bt_front s h j hj)]
    simp only [Option.bind_some]
    rw [ref_val _ (by omega)]
    simp only [Option.bind_some, may_r]
    cases mayB (ordV s, ordV (s.extract 8 s.size)) <;> rfl
  · rw [if_neg (by omega), if_neg h]
end Go.Proofs.Ytgpmceimhfkncaa.WT
