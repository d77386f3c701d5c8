/- The reference's Drop. Conditions: as each theorem states them. -/
import Derived.Test.YtlmnnbmihimedaaV1
namespace Go.Proofs.Ytlmnnbmihimedaa
open Go.RowKit Go.Maps
set_option linter.unusedVariables false
set_option linter.unusedSimpArgs false

set_option maxRecDepth 100000 in
set_option maxHeartbeats 2000000 in
theorem refdrop_arg (A : Option Addr) (n c : Nat) (x : Tm) (w : World) (hx : chkT x ≠ 0) :
    Calls Try.prog 25 #[.slice A n c, tmV x] w fun e w' => e = .returned (.tuple #[.slice A n c, .int .i64 2]) ∧ Below w.heap.size w w' := by
  have hr : chkT x = 2 := by
    unfold chkT at hx ⊢
    split
    · rfl
    · rename_i h
      rw [if_neg h] at hx
      exact absurd rfl hx
  have HC := Lib.hid (fun w => refcheck_any x w)
  rw [hr] at HC
  clear hx hr
  obtain ⟨t, k, s⟩ := x
  unfold tmV at *
  dsimp only at *
  go_enter Try.func25, Try.ntmps25
  go_wp2_with (fail)
  refine (HC.out _).mono ?_
  rintro e w1 ⟨rfl, hb1⟩
  go_wp2_with (fail)
  refine bodyPost_ret (v := .tuple #[.slice A n c, .int .i64 2]) (by simp only [results, Try.results25]; go_simp) rfl ?_
  exact ⟨rfl, bl_then (bl_alloc (Below.refl _ _) _) hb1⟩
set_option maxRecDepth 100000 in
set_option maxHeartbeats 4000000 in
theorem refdrop_main (A : Option Addr) (n c : Nat) (l : List Tm) (x : Tm) (w : World) (hx : chkT x = 0) (hl : l.length = n) (hn : n ≤ 1000000) (hnc : n ≤ c) (hA : RdT w w.heap.size A l) (hno : A = none → c = 0 ∧ n = 0) :
    Calls Try.prog 25 #[.slice A n c, tmV x] w fun e w' => Below w.heap.size w w' ∧ ∃ k, IsPlace l x k ∧ ((¬ (k < l.length ∧ l.getD k zeroT = x) ∧ e = .returned (.tuple #[.slice A n c, .int .i64 4])) ∨
      ((k < l.length ∧ l.getD k zeroT = x) ∧ ∃ vo, e = .returned (.tuple #[vo, .int .i64 0]) ∧ w'.ownsRow w.heap.size 23 3 vo (n - 1) (tcells (l.take k ++ l.drop (k + 1))))) := by
  have HC := Lib.hid (fun w => refcheck_any x w)
  rw [hx] at HC
  have HA := Lib.hid hA
  have HLN := Lib.hid hl
  have HNO := Lib.hid hno
  clear hA hl hno hx
  obtain ⟨t, ks, s⟩ := x
  have HPL := Lib.hid (fun (w' : World) (h : Below w.heap.size w w') => place_any A n c l ⟨t, ks, s⟩ w' HLN.out hn ((HA.out.below h).more h.size (Nat.le_refl _)))
  unfold tmV at *
  dsimp only at *
  go_enter Try.func25, Try.ntmps25
  go_wp2_with (fail)
  have hbA : Below w.heap.size w (w.alloc (Obj.cells #[.int .i64 t, .string ks, .string s] 23)) := bl_alloc (Below.refl _ _) _
  have x0 : (w.alloc (Obj.cells #[.int .i64 t, .string ks, .string s] 23)).cell? ⟨w.heap.size, 0, none⟩ = some (.int .i64 t) := by go_keep
  have x1 : (w.alloc (Obj.cells #[.int .i64 t, .string ks, .string s] 23)).cell? ⟨w.heap.size, 1, none⟩ = some (.string ks) := by go_keep
  have x2 : (w.alloc (Obj.cells #[.int .i64 t, .string ks, .string s] 23)).cell? ⟨w.heap.size, 2, none⟩ = some (.string s) := by go_keep
  have hl0 : w.heap.size < (w.alloc (Obj.cells #[.int .i64 t, .string ks, .string s] 23)).heap.size := by simp
  generalize (w.alloc (Obj.cells #[.int .i64 t, .string ks, .string s] 23)) = w0 at *
  have HBA := Lib.hid hbA
  clear hbA
  refine (HC.out _).mono ?_
  rintro e w1 ⟨rfl, hb1⟩
  have hs1 := hb1.size
  have x0 := (hb1.cell (p := ⟨w.heap.size, 0, none⟩) hl0).trans x0
  have x1 := (hb1.cell (p := ⟨w.heap.size, 1, none⟩) hl0).trans x1
  have x2 := (hb1.cell (p := ⟨w.heap.size, 2, none⟩) hl0).trans x2
  have hl1 : w.heap.size < w1.heap.size := by omega
  have HB1 := Lib.hid (bl_then HBA.out hb1)
  clear hb1
  go_wp2_with (fail)
  refine (HPL.out _ HB1.out).mono ?_
  rintro e w2 ⟨k, b, rfl, hpl, hbk, hb2⟩
  have hs2 := hb2.size
  have x0 := (hb2.cell (p := ⟨w.heap.size, 0, none⟩) hl1).trans x0
  have x1 := (hb2.cell (p := ⟨w.heap.size, 1, none⟩) hl1).trans x1
  have x2 := (hb2.cell (p := ⟨w.heap.size, 2, none⟩) hl1).trans x2
  have hl2 : w.heap.size < w2.heap.size := by omega
  have HB2 := Lib.hid (bl_then HB1.out hb2)
  have HP := Lib.hid hpl
  have HBK := Lib.hid hbk
  have hkn : k ≤ n := by have := hpl.1; rw [HLN.out] at this; exact this
  clear hb2 hpl hbk
  cases b
  · have hnk : ¬ (k < l.length ∧ l.getD k zeroT = ⟨t, ks, s⟩) := fun h => by have := HBK.out.2 h; cases this
    have HNK := Lib.hid hnk
    clear hnk
    go_wp2_with (fail)
    refine bodyPost_ret (v := .tuple #[.slice A n c, .int .i64 4]) (by simp only [results, Try.results25]; go_simp) rfl ?_
    exact ⟨HB2.out, k, HP.out, .inl ⟨HNK.out, rfl⟩⟩
  · have hik := HBK.out.1 rfl
    have hkl : k < n := by have := hik.1; rw [HLN.out] at this; exact this
    have HIK := Lib.hid hik
    clear hik
    have hk0 : (0 : Int) ≤ (k : Int) := by omega
    have hk1 : (k : Int) ≤ (n : Int) := by omega
    have hk2 : (k : Int) ≤ (c : Int) := by omega
    have hk3 : (n : Int) ≤ (c : Int) := by omega
    go_wp2_with ((at_builtin; refine Hid.out ?_))
    refine Lib.hid ?_
    have hown0 : (w2.alloc (Obj.cells #[] 23)).ownsRow w2.heap.size 23 3 (.slice (some ⟨w2.heap.size, 0, none⟩) 0 0) 0 (tcells []) :=
      ⟨rfl, .inr ⟨w2.heap.size, 0, #[], rfl, Nat.le_refl _, Array.getElem?_push_size, Nat.le_refl _, by simp [maxLen], rfl, rfl⟩⟩
    have hbA2 : Below w2.heap.size w2 (w2.alloc (Obj.cells #[] 23)) := bl_alloc (Below.refl _ _) _
    have hA2 : RdT (w2.alloc (Obj.cells #[] 23)) w.heap.size A l := (HA.out.below HB2.out).below hbA2
    have hltk : (l.take k).length = k := by rw [List.length_take, HLN.out]; omega
    have hldk : (l.drop (k + 1)).length = n - (k + 1) := by rw [List.length_drop, HLN.out]
    refine wpList_append_t _ (by rfl) _ _ rfl w2.heap.size 0 (.slice (some ⟨w2.heap.size, 0, none⟩) 0 0) [] rfl hown0 A k c w.heap.size (l.take k) hltk rfl (hA2.take k) (fun h => ⟨(HNO.out h).1, by have := (HNO.out h).2; omega⟩) (by omega) (by simp) ?_
    intro v3 w3 hown3 hgrow3
    have hk3 : Below w2.heap.size w2 w3 := ((Kw.ofBelow (S := fun b => w2.heap.size ≤ b) hbA2).grown hgrow3 (fun g hg => by simp [Value.ownBlock] at hg; omega)).below (Nat.le_refl _) (fun b h => h)
    have hs3 := hk3.size
    have HO3 := Lib.hid hown3
    have HK3 := Lib.hid hk3
    have HTK := Lib.hid hltk
    have HDK := Lib.hid hldk
    clear hown0 hown3 hgrow3 hk3 hbA2 hA2 hltk hldk
    have hj0 : (0 : Int) ≤ (k : Int) + 1 := by omega
    have hj1 : (k : Int) + 1 ≤ (n : Int) := by omega
    have hj2 : (k : Int) + 1 ≤ (c : Int) := by omega
    by_cases hck : c = k + 1
    · subst hck
      have hlk : l.drop (k + 1) = [] := List.drop_eq_nil_of_le (by rw [HLN.out]; omega)
      have HLK := Lib.hid hlk
      clear hlk
      go_wp2_with ((at_builtin; refine Hid.out ?_))
      refine Lib.hid ?_
      refine wpList_append_t _ (by rfl) _ _ rfl w2.heap.size (0 + k) v3 ([] ++ l.take k) rfl HO3.out A 0 0 w.heap.size [] rfl rfl RdT.nil (fun _ => ⟨rfl, rfl⟩) (by omega) (by omega) ?_
      intro v5 w5 hown5 hgrow5
      have hk5 : Below w2.heap.size w2 w5 := ((Kw.ofBelow (S := fun b => w2.heap.size ≤ b) HK3.out).grown hgrow5 (own_ge HO3.out)).below (Nat.le_refl _) (fun b h => h)
      have HO5 := Lib.hid hown5
      have HK5 := Lib.hid hk5
      clear hown5 hgrow5 hk5
      go_wp2_with (fail)
      refine bodyPost_ret (v := .tuple #[v5, .int .i64 0]) (by simp only [results, Try.results25]; go_simp) rfl ?_
      refine ⟨bl_then HB2.out HK5.out, k, HP.out, .inr ⟨HIK.out, v5, rfl, ?_⟩⟩
      have h := own_le HO5.out (show w.heap.size ≤ w2.heap.size by omega)
      rw [HLK.out]
      have e : n - 1 = k := by omega
      rw [e]
      simpa using h
    · obtain ⟨a, rfl⟩ : ∃ a, A = some a := by
        cases A with
        | some a => exact ⟨a, rfl⟩
        | none => have := HNO.out rfl; omega
      go_wp2_with ((at_builtin; refine Hid.out ?_))
      refine Lib.hid ?_
      have hR3 : RdT w3 w.heap.size (some (a.add ((k + 1) * 3))) (l.drop (k + 1)) := ((HA.out.below HB2.out).below HK3.out).drop (k + 1)
      refine wpList_append_t _ (by rfl) _ _ rfl w2.heap.size (0 + k) v3 ([] ++ l.take k) rfl HO3.out (some (a.add ((k + 1) * 3))) (n - (k + 1)) (c - (k + 1)) w.heap.size (l.drop (k + 1)) HDK.out rfl hR3 (fun h => by cases h) (by omega) (by omega) ?_
      intro v5 w5 hown5 hgrow5
      have hk5 : Below w2.heap.size w2 w5 := ((Kw.ofBelow (S := fun b => w2.heap.size ≤ b) HK3.out).grown hgrow5 (own_ge HO3.out)).below (Nat.le_refl _) (fun b h => h)
      have HO5 := Lib.hid hown5
      have HK5 := Lib.hid hk5
      clear hown5 hgrow5 hk5
      go_wp2_with (fail)
      refine bodyPost_ret (v := .tuple #[v5, .int .i64 0]) (by simp only [results, Try.results25]; go_simp) rfl ?_
      refine ⟨bl_then HB2.out HK5.out, k, HP.out, .inr ⟨HIK.out, v5, rfl, ?_⟩⟩
      have h := own_le HO5.out (show w.heap.size ≤ w2.heap.size by omega)
      have e : 0 + k + (n - (k + 1)) = n - 1 := by omega
      rw [e] at h
      simpa using h
end Go.Proofs.Ytlmnnbmihimedaa
