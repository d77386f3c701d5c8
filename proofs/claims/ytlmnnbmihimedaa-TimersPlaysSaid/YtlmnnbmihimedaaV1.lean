/- The reference's Due, Put and Drop. Conditions: as each theorem states them. -/
import Derived.Test.YtlmnnbmihimedaaV0
namespace Go.Proofs.Ytlmnnbmihimedaa
open Go.RowKit Go.Maps
set_option linter.unusedVariables false
set_option linter.unusedSimpArgs false

def DueUp (l : List Tm) (u : Int) (k : Nat) : Prop := ∀ i, i < k → (l.getD i zeroT).t ≤ u
/-- How many of the first ones are due. -/
def IsDue (l : List Tm) (u : Int) (k : Nat) : Prop := k ≤ l.length ∧ DueUp l u k ∧ (k < l.length → u < (l.getD k zeroT).t)
theorem DueUp.succ {l : List Tm} {u : Int} {k : Nat} (h : DueUp l u k) (hk : (l.getD k zeroT).t ≤ u) : DueUp l u (k + 1) := fun j hj => by
  by_cases hji : j = k
  · subst hji; exact hk
  · exact h j (by omega)
theorem RdT.take {w : World} {B : Nat} {A : Option Addr} {l : List Tm} (h : RdT w B A l) (k : Nat) : RdT w B A (l.take k) := by
  intro hl
  rw [List.length_take] at hl
  obtain ⟨b, off, e, hb, hB, hc⟩ := h (by omega)
  refine ⟨b, off, e, hb, hB, fun i hi => ?_⟩
  rw [List.length_take] at hi
  have e : (l.take k).getD i zeroT = l.getD i zeroT := by rw [List.getD_eq_getElem?_getD, List.getD_eq_getElem?_getD, List.getElem?_take, if_pos (by omega)]
  rw [e]
  exact hc i (by omega)
theorem RdT.drop {w : World} {B : Nat} {a : Addr} {l : List Tm} (h : RdT w B (some a) l) (k : Nat) : RdT w B (some (a.add (k * 3))) (l.drop k) := by
  intro hl
  rw [List.length_drop] at hl
  obtain ⟨b', off', e, hb, hB, hc⟩ := h (by omega)
  cases e
  refine ⟨b', off' + k * 3, by simp [Addr.add], hb, hB, fun i hi => ?_⟩
  rw [List.length_drop] at hi
  have e : (l.drop k).getD i zeroT = l.getD (k + i) zeroT := by rw [List.getD_eq_getElem?_getD, List.getD_eq_getElem?_getD, List.getElem?_drop]
  rw [e, show off' + k * 3 + i * 3 = off' + (k + i) * 3 by omega]
  exact hc (k + i) (by omega)
theorem own_le {w : World} {B B' s n : Nat} {e : TypeId} {v : Value} {xs : List Value} (h : w.ownsRow B e s v n xs) (hb : B' ≤ B) : w.ownsRow B' e s v n xs := by
  refine ⟨h.1, ?_⟩
  rcases h.2 with h0 | ⟨g, c, cur, rfl, hb2, r⟩
  · exact .inl h0
  · exact .inr ⟨g, c, cur, rfl, by omega, r⟩
theorem RdT.nil {w : World} {B : Nat} {A : Option Addr} : RdT w B A [] := fun h => by simp at h
theorem RdT.one (w : World) (x : Tm) : RdT (w.alloc (.cells #[.int .i64 x.t, .string x.k, .string x.s] 23)) (w.heap.size + 1) (some ⟨w.heap.size, 0, none⟩) [x] := by
  intro _
  refine ⟨w.heap.size, 0, rfl, by omega, by simp, fun i hi => ?_⟩
  obtain rfl : i = 0 := by simpa using hi
  have e : [x].getD 0 zeroT = x := rfl
  rw [e]
  exact ⟨by go_keep, by go_keep, by go_keep⟩
set_option maxRecDepth 100000 in
set_option maxHeartbeats 2000000 in
theorem refdue_any (A : Option Addr) (n c : Nat) (l : List Tm) (upto : Int) (w : World) (hl : l.length = n) (hn : n ≤ 1000000) (hA : RdT w w.heap.size A l) :
    Calls Try.prog 27 #[.slice A n c, .int .i64 upto] w fun e w' => ∃ k : Nat, e = .returned (.int .i64 k) ∧ IsDue l upto k ∧ w = w' := by
  have HA := Lib.hid hA
  have HLN := Lib.hid hl
  clear hA hl
  go_enter Try.func27, Try.ntmps27
  go_wp2_with (fail)
  go_loopw [5] (fun vi wr => ∃ i : Nat, i ≤ n ∧ vi = .int .i64 i ∧ DueUp l upto i ∧ w = wr) (fun i _ => n - (intOf i).toNat)
  case atStart => exact ⟨0, Nat.zero_le _, rfl, fun j hj => absurd hj (Nat.not_lt_zero j), rfl⟩
  case round =>
    obtain ⟨i, hin, rfl, hle, rfl⟩ := hrel
    have HLE := Lib.hid hle
    clear hle
    by_cases hi : i < n
    · have hi0 : (0 : Int) ≤ (i : Int) := by omega
      have hi1 : (i : Int) < (n : Int) := by omega
      obtain ⟨b, off, rfl, hb, _, hc⟩ := HA.out (by rw [HLN.out]; omega)
      obtain ⟨a0, _, _⟩ := hc i (by rw [HLN.out]; exact hi)
      obtain ⟨y, hy⟩ : ∃ y, (l.getD i zeroT).t = y := ⟨_, rfl⟩
      rw [hy] at a0
      have HY := Lib.hid hy
      clear hc hy
      by_cases hyu : y ≤ upto
      · have HU : Hid ((l.getD i zeroT).t ≤ upto) := Lib.hid (by rw [HY.out]; exact hyu)
        go_wp2_with (fail)
        go_roundw
        case rel => exact ⟨i + 1, by omega, by first | rfl | (push_cast; rfl) | go_num, HLE.out.succ HU.out, by first | trivial | rfl⟩
        case measure => simp [intOf]; omega
      · have hyu' : upto < y := by omega
        have HU : Hid (IsDue l upto i) := Lib.hid ⟨by rw [HLN.out]; omega, HLE.out, fun _ => by rw [HY.out]; exact hyu'⟩
        go_wp2_with (fail)
        go_ret
        exact ⟨i, rfl, HU.out, rfl⟩
    · have hine : i = n := by omega
      subst hine
      have hirr : ¬ (i : Int) < (i : Int) := by omega
      have HU : Hid (IsDue l upto i) := Lib.hid ⟨by rw [HLN.out]; omega, HLE.out, fun h => by rw [HLN.out] at h; omega⟩
      go_wp2_with (fail)
      go_ret
      exact ⟨i, rfl, HU.out, rfl⟩
set_option maxRecDepth 100000 in
set_option maxHeartbeats 2000000 in
theorem refput_arg (A : Option Addr) (n c : Nat) (x : Tm) (w : World) (hx : chkT x ≠ 0) :
    Calls Try.prog 23 #[.slice A n c, tmV x] w fun e w' => e = .returned (.tuple #[.slice A n c, .int .i64 2]) ∧ Below w.heap.size w w' := by
  have hr : chkT x = 2 := by
    unfold chkT at hx ⊢
    split
    · rfl
    · rename_i h
      rw [if_neg h] at hx
      exact absurd rfl hx
  have HC := Lib.hid (fun w => refcheck_any x w)
  rw [hr] at HC
  clear hx hr
  obtain ⟨t, k, s⟩ := x
  unfold tmV at *
  dsimp only at *
  go_enter Try.func23, Try.ntmps23
  go_wp2_with (fail)
  refine (HC.out _).mono ?_
  rintro e w1 ⟨rfl, hb1⟩
  go_wp2_with (fail)
  refine bodyPost_ret (v := .tuple #[.slice A n c, .int .i64 2]) (by simp only [results, Try.results23]; go_simp) rfl ?_
  exact ⟨rfl, bl_then (bl_alloc (Below.refl _ _) _) hb1⟩
set_option maxRecDepth 100000 in
set_option maxHeartbeats 4000000 in
theorem refput_main (A : Option Addr) (n c : Nat) (l : List Tm) (x : Tm) (w : World) (hx : chkT x = 0) (hl : l.length = n) (hn : n ≤ 1000000) (hnc : n ≤ c) (hA : RdT w w.heap.size A l) (hno : A = none → c = 0 ∧ n = 0) :
    Calls Try.prog 23 #[.slice A n c, tmV x] w fun e w' => Below w.heap.size w w' ∧ ∃ k, IsPlace l x k ∧ (((k < l.length ∧ l.getD k zeroT = x) ∧ e = .returned (.tuple #[.slice A n c, .int .i64 5])) ∨ (¬ (k < l.length ∧ l.getD k zeroT = x) ∧ 1024 ≤ n ∧ e = .returned (.tuple #[.slice A n c, .int .i64 3])) ∨
      (¬ (k < l.length ∧ l.getD k zeroT = x) ∧ n < 1024 ∧ ∃ vo, e = .returned (.tuple #[vo, .int .i64 0]) ∧ w'.ownsRow w.heap.size 23 3 vo (n + 1) (tcells (l.take k ++ x :: l.drop k)))) := by
  have HC := Lib.hid (fun w => refcheck_any x w)
  rw [hx] at HC
  have HA := Lib.hid hA
  have HLN := Lib.hid hl
  have HNO := Lib.hid hno
  clear hA hl hno hx
  obtain ⟨t, ks, s⟩ := x
  have HPL := Lib.hid (fun (w' : World) (h : Below w.heap.size w w') => place_any A n c l ⟨t, ks, s⟩ w' HLN.out hn ((HA.out.below h).more h.size (Nat.le_refl _)))
  unfold tmV at *
  dsimp only at *
  go_enter Try.func23, Try.ntmps23
  go_wp2_with (fail)
  have hbA : Below w.heap.size w (w.alloc (Obj.cells #[.int .i64 t, .string ks, .string s] 23)) := bl_alloc (Below.refl _ _) _
  have x0 : (w.alloc (Obj.cells #[.int .i64 t, .string ks, .string s] 23)).cell? ⟨w.heap.size, 0, none⟩ = some (.int .i64 t) := by go_keep
  have x1 : (w.alloc (Obj.cells #[.int .i64 t, .string ks, .string s] 23)).cell? ⟨w.heap.size, 1, none⟩ = some (.string ks) := by go_keep
  have x2 : (w.alloc (Obj.cells #[.int .i64 t, .string ks, .string s] 23)).cell? ⟨w.heap.size, 2, none⟩ = some (.string s) := by go_keep
  have hl0 : w.heap.size < (w.alloc (Obj.cells #[.int .i64 t, .string ks, .string s] 23)).heap.size := by simp
  generalize (w.alloc (Obj.cells #[.int .i64 t, .string ks, .string s] 23)) = w0 at *
  have HBA := Lib.hid hbA
  clear hbA
  refine (HC.out _).mono ?_
  rintro e w1 ⟨rfl, hb1⟩
  have hs1 := hb1.size
  have x0 := (hb1.cell (p := ⟨w.heap.size, 0, none⟩) hl0).trans x0
  have x1 := (hb1.cell (p := ⟨w.heap.size, 1, none⟩) hl0).trans x1
  have x2 := (hb1.cell (p := ⟨w.heap.size, 2, none⟩) hl0).trans x2
  have hl1 : w.heap.size < w1.heap.size := by omega
  have HB1 := Lib.hid (bl_then HBA.out hb1)
  clear hb1
  go_wp2_with (fail)
  refine (HPL.out _ HB1.out).mono ?_
  rintro e w2 ⟨k, b, rfl, hpl, hbk, hb2⟩
  have hs2 := hb2.size
  have x0 := (hb2.cell (p := ⟨w.heap.size, 0, none⟩) hl1).trans x0
  have x1 := (hb2.cell (p := ⟨w.heap.size, 1, none⟩) hl1).trans x1
  have x2 := (hb2.cell (p := ⟨w.heap.size, 2, none⟩) hl1).trans x2
  have hl2 : w.heap.size < w2.heap.size := by omega
  have HB2 := Lib.hid (bl_then HB1.out hb2)
  have HP := Lib.hid hpl
  have HBK := Lib.hid hbk
  have hkn : k ≤ n := by have := hpl.1; rw [HLN.out] at this; exact this
  clear hb2 hpl hbk
  cases b
  · have hnk : ¬ (k < l.length ∧ l.getD k zeroT = ⟨t, ks, s⟩) := fun h => by have := HBK.out.2 h; cases this
    have HNK := Lib.hid hnk
    clear hnk
    by_cases hlong : 1024 ≤ n
    · have hli : (1024 : Int) ≤ (n : Int) := by omega
      go_wp2_with (fail)
      refine bodyPost_ret (v := .tuple #[.slice A n c, .int .i64 3]) (by simp only [results, Try.results23]; go_simp) rfl ?_
      exact ⟨HB2.out, k, HP.out, .inr (.inl ⟨HNK.out, hlong, rfl⟩)⟩
    · have hli : (n : Int) < 1024 := by omega
      have hk0 : (0 : Int) ≤ (k : Int) := by omega
      have hk1 : (k : Int) ≤ (n : Int) := by omega
      have hk2 : (k : Int) ≤ (c : Int) := by omega
      have hk3 : (n : Int) ≤ (c : Int) := by omega
      go_wp2_with ((at_builtin; refine Hid.out ?_))
      refine Lib.hid ?_
      have hown0 : (w2.alloc (Obj.cells #[] 23)).ownsRow w2.heap.size 23 3 (.slice (some ⟨w2.heap.size, 0, none⟩) 0 0) 0 (tcells []) :=
        ⟨rfl, .inr ⟨w2.heap.size, 0, #[], rfl, Nat.le_refl _, Array.getElem?_push_size, Nat.le_refl _, by simp [maxLen], rfl, rfl⟩⟩
      have hbA2 : Below w2.heap.size w2 (w2.alloc (Obj.cells #[] 23)) := bl_alloc (Below.refl _ _) _
      have hA2 : RdT (w2.alloc (Obj.cells #[] 23)) w.heap.size A l := (HA.out.below HB2.out).below hbA2
      have hltk : (l.take k).length = k := by rw [List.length_take, HLN.out]; omega
      have hldk : (l.drop k).length = n - k := by rw [List.length_drop, HLN.out]
      refine wpList_append_t _ (by rfl) _ _ rfl w2.heap.size 0 (.slice (some ⟨w2.heap.size, 0, none⟩) 0 0) [] rfl hown0 A k c w.heap.size (l.take k) hltk rfl (hA2.take k) (fun h => ⟨(HNO.out h).1, by have := (HNO.out h).2; omega⟩) (by omega) (by simp) ?_
      intro v3 w3 hown3 hgrow3
      have hk3 : Below w2.heap.size w2 w3 := ((Kw.ofBelow (S := fun b => w2.heap.size ≤ b) hbA2).grown hgrow3 (fun g hg => by simp [Value.ownBlock] at hg; omega)).below (Nat.le_refl _) (fun b h => h)
      have x0 := (hk3.cell (p := ⟨w.heap.size, 0, none⟩) hl2).trans x0
      have x1 := (hk3.cell (p := ⟨w.heap.size, 1, none⟩) hl2).trans x1
      have x2 := (hk3.cell (p := ⟨w.heap.size, 2, none⟩) hl2).trans x2
      have hs3 := hk3.size
      have hl3 : w.heap.size < w3.heap.size := by omega
      have HO3 := Lib.hid hown3
      have HK3 := Lib.hid hk3
      have HTK := Lib.hid hltk
      have HDK := Lib.hid hldk
      clear hown0 hown3 hgrow3 hk3 hbA2 hA2 hltk hldk
      go_wp2_with ((at_builtin; refine Hid.out ?_))
      refine Lib.hid ?_
      have hown4 : (w3.alloc (Obj.cells #[Value.int IntKind.i64 t, Value.string ks, Value.string s] 23)).ownsRow w2.heap.size 23 3 v3 (0 + k) (tcells ([] ++ l.take k)) := own_new HO3.out ((Kw.refl _ _).alloc _)
      refine wpList_append_t _ (by rfl) _ _ rfl w2.heap.size (0 + k) v3 ([] ++ l.take k) rfl hown4 (some ⟨w3.heap.size, 0, none⟩) 1 1 (w3.heap.size + 1) [⟨t, ks, s⟩] rfl rfl (RdT.one w3 ⟨t, ks, s⟩) (fun h => by cases h) (by omega) (by simp; omega) ?_
      intro v4 w4 hown4' hgrow4
      have hk4 : Below w2.heap.size w2 w4 := (((Kw.ofBelow (S := fun b => w2.heap.size ≤ b) HK3.out).alloc _).grown hgrow4 (own_ge HO3.out)).below (Nat.le_refl _) (fun b h => h)
      have HO4 := Lib.hid hown4'
      have HK4 := Lib.hid hk4
      have hs4 := hk4.size
      clear hown4 hown4' hgrow4 hk4
      by_cases hck : c = k
      · subst hck
        have hlk : l.drop c = [] := List.drop_eq_nil_of_le (by rw [HLN.out]; omega)
        have HLK := Lib.hid hlk
        clear hlk
        go_wp2_with ((at_builtin; refine Hid.out ?_))
        refine Lib.hid ?_
        refine wpList_append_t _ (by rfl) _ _ rfl w2.heap.size (0 + c + 1) v4 ([] ++ l.take c ++ [⟨t, ks, s⟩]) rfl HO4.out A 0 0 w.heap.size [] rfl rfl RdT.nil (fun _ => ⟨rfl, rfl⟩) (by omega) (by omega) ?_
        intro v5 w5 hown5 hgrow5
        have hk5 : Below w2.heap.size w2 w5 := ((Kw.ofBelow (S := fun b => w2.heap.size ≤ b) HK4.out).grown hgrow5 (own_ge HO4.out)).below (Nat.le_refl _) (fun b h => h)
        have HO5 := Lib.hid hown5
        have HK5 := Lib.hid hk5
        clear hown5 hgrow5 hk5
        go_wp2_with (fail)
        refine bodyPost_ret (v := .tuple #[v5, .int .i64 0]) (by simp only [results, Try.results23]; go_simp) rfl ?_
        refine ⟨bl_then HB2.out HK5.out, c, HP.out, .inr (.inr ⟨HNK.out, by omega, v5, rfl, ?_⟩)⟩
        rw [HLK.out]
        have e : n = c := by omega
        have h := own_le HO5.out (show w.heap.size ≤ w2.heap.size by omega)
        simpa [e, Nat.add_comm, Nat.add_assoc] using h
      · obtain ⟨a, rfl⟩ : ∃ a, A = some a := by
          cases A with
          | some a => exact ⟨a, rfl⟩
          | none => have := HNO.out rfl; omega
        go_wp2_with ((at_builtin; refine Hid.out ?_))
        refine Lib.hid ?_
        have hR4 : RdT w4 w.heap.size (some (a.add (k * 3))) (l.drop k) := ((HA.out.below HB2.out).below HK4.out).drop k
        refine wpList_append_t _ (by rfl) _ _ rfl w2.heap.size (0 + k + 1) v4 ([] ++ l.take k ++ [⟨t, ks, s⟩]) rfl HO4.out (some (a.add (k * 3))) (n - k) (c - k) w.heap.size (l.drop k) HDK.out rfl hR4 (fun h => by cases h) (by omega) (by omega) ?_
        intro v5 w5 hown5 hgrow5
        have hk5 : Below w2.heap.size w2 w5 := ((Kw.ofBelow (S := fun b => w2.heap.size ≤ b) HK4.out).grown hgrow5 (own_ge HO4.out)).below (Nat.le_refl _) (fun b h => h)
        have HO5 := Lib.hid hown5
        have HK5 := Lib.hid hk5
        clear hown5 hgrow5 hk5 hR4
        go_wp2_with (fail)
        refine bodyPost_ret (v := .tuple #[v5, .int .i64 0]) (by simp only [results, Try.results23]; go_simp) rfl ?_
        refine ⟨bl_then HB2.out HK5.out, k, HP.out, .inr (.inr ⟨HNK.out, by omega, v5, rfl, ?_⟩)⟩
        have h := own_le HO5.out (show w.heap.size ≤ w2.heap.size by omega)
        have e : 0 + k + 1 + (n - k) = n + 1 := by omega
        rw [e] at h
        simpa using h
  · have hik := HBK.out.1 rfl
    have HIK := Lib.hid hik
    clear hik
    go_wp2_with (fail)
    refine bodyPost_ret (v := .tuple #[.slice A n c, .int .i64 5]) (by simp only [results, Try.results23]; go_simp) rfl ?_
    exact ⟨HB2.out, k, HP.out, .inl ⟨HIK.out, rfl⟩⟩
end Go.Proofs.Ytlmnnbmihimedaa
