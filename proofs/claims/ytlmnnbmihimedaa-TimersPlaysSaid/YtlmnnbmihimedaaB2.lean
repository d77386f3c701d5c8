/- The contract of pile.cut. Conditions: as the theorem states them. -/
import Derived.Test.YtlmnnbmihimedaaB1
namespace Go.Proofs.Ytlmnnbmihimedaa
open Go.RowKit
set_option linter.unusedVariables false
set_option linter.unusedSimpArgs false

def cutMid (tm : Nat → Tm) (bs : List Nat) (k : Nat) : List Nat := upL tm (bs.getD (bs.length - 1) 0) k (bs.dropLast.set k (bs.getD (bs.length - 1) 0)) k
def cutL (tm : Nat → Tm) (bs : List Nat) (k : Nat) : List Nat :=
  if k < bs.length - 1 then downL tm ((cutMid tm bs k).getD k 0) (bs.length - 1) (cutMid tm bs k) k else bs.dropLast
def cutP (tm : Nat → Tm) (bs : List Nat) (k : Nat) (pl : Nat → Int) : Nat → Int :=
  if k < bs.length - 1 then downP tm ((cutMid tm bs k).getD k 0) (bs.length - 1) (cutMid tm bs k) k (upP tm (bs.getD (bs.length - 1) 0) k (bs.dropLast.set k (bs.getD (bs.length - 1) 0)) k (plSet pl (bs.getD (bs.length - 1) 0) k)) else pl
theorem downL_length (tm : Nat → Tm) (x : Nat) : ∀ (f : Nat) (bs : List Nat) (k : Nat), (downL tm x f bs k).length = bs.length
  | 0, bs, k => by simp [downL]
  | f + 1, bs, k => by
    simp only [downL]
    split
    · rw [downL_length tm x f]
      simp
    · simp
theorem upL_mem (tm : Nat → Tm) (x : Nat) : ∀ (f : Nat) (bs : List Nat) (k : Nat), k < bs.length → ∀ b ∈ upL tm x f bs k, b ∈ bs ∨ b = x
  | 0, bs, k, hk, b, hb => by
    simp only [upL] at hb
    exact List.mem_or_eq_of_mem_set hb
  | f + 1, bs, k, hk, b, hb => by
    simp only [upL] at hb
    split at hb
    · rename_i h
      rcases upL_mem tm x f _ _ (by simp; omega) b hb with h1 | h1
      · rcases List.mem_or_eq_of_mem_set h1 with h2 | h2
        · exact .inl h2
        · refine .inl (h2 ▸ ?_)
          rw [List.getD_eq_getElem?_getD, List.getElem?_eq_getElem (by omega)]
          exact List.getElem_mem _
      · exact .inr h1
    · exact List.mem_or_eq_of_mem_set hb
set_option maxRecDepth 100000 in
set_option maxHeartbeats 1000000 in
theorem cut_any (B q k : Nat) (v : Value) (bs : List Nat) (tm : Nat → Tm) (pl : Nat → Int) (w : World) (h : Heap w B q v bs tm pl) (hk : k < bs.length) (hn : bs.length ≤ 100000)
    (S : Nat → Prop) (hSq : S q) (hSb : ∀ b ∈ bs, S b) (hSg : ∀ g, v.ownBlock = some g → S g) :
    Calls Try.prog 32 #[.pointer (some ⟨q, 0, none⟩), .int .i64 k] w fun e w' => e = .returned (.tuple #[]) ∧ ∃ v', Heap w' B q v' (cutL tm bs k) tm (cutP tm bs k pl) ∧ Kw S w w' ∧ v'.ownBlock = v.ownBlock ∧ ∀ i, i ≠ 0 → w'.cell? ⟨q, i, none⟩ = w.cell? ⟨q, i, none⟩ := by
  obtain ⟨g, c, rfl, hgB, hnc, hcm, cur, hcur, hcs, hct⟩ := h.rowOf (by omega)
  obtain ⟨m, hm⟩ : ∃ m, bs.length = m + 1 := ⟨bs.length - 1, by omega⟩
  have hP := h.pile rfl (by omega)
  have hlast := hP.cell m (by omega)
  have H := Lib.hid h
  obtain ⟨l0, _, _, ql, qf, row, _, hap, _⟩ := h
  have hgl := hP.p.gl
  have hgq := hP.gq
  have hlm : bs.getD m 0 ∈ bs := by
    rw [List.getD_eq_getElem?_getD, List.getElem?_eq_getElem (by omega)]
    exact List.getElem_mem _
  obtain ⟨la, hla⟩ : ∃ la, bs.getD m 0 = la := ⟨_, rfl⟩
  rw [hla] at hlast hlm
  have HLA := Lib.hid hla
  clear hla
  have HP := Lib.hid hP
  have HCT := Lib.hid hct
  have HCUR := Lib.hid hcur
  have HSB := Lib.hid hSb
  have HROW := Lib.hid row
  have HM := Lib.hid hm
  rw [hm] at l0 hnc ⊢
  have hm0 : (0 : Int) ≤ (m : Int) := by omega
  have hm1 : (m : Int) < ((m + 1 : Nat) : Int) := by omega
  have hm2 : (m : Int) ≤ (c : Int) := by omega
  have hmc : m ≤ c := by omega
  have hmb : m ≤ 100000 := by omega
  clear hP hct hcur row hSb hm
  have hw2 : Heap (w.setCell ⟨q, 0, none⟩ (.slice (some ⟨g, 0, none⟩) m c)) B q (.slice (some ⟨g, 0, none⟩) m c) bs.dropLast tm pl := by
    have hl : bs.dropLast.length = m := by rw [List.length_dropLast, HM.out]; omega
    have hg0 : w.grownBy w ((Value.slice (some ⟨g, 0, none⟩) bs.length c).ownBlock) := ⟨rfl, rfl, rfl, Nat.le_refl _, fun _ _ _ => rfl⟩
    refine H.out.store hg0 ⟨by simp, .inr ⟨g, c, cur, by rw [hl], hgB, HCUR.out, by omega, hcm, by omega, ?_⟩⟩ (fun b hb => ?_) (fun g' hg' => .inl hg')
    · rw [Nat.mul_one, List.map_dropLast, ← HCT.out, hl]
      rw [HM.out]
      rw [List.dropLast_eq_take, List.take_take, List.length_take]
      congr 1
      have : cur.toList.length = c := by simpa using hcs
      omega
    · have := List.dropLast_subset _ hb
      exact ⟨H.out.item b this, H.out.ne b this, fun g' hg' => (H.out.apart g' hg').2 b this⟩
  have hkw2 : Kw S w (w.setCell ⟨q, 0, none⟩ (.slice (some ⟨g, 0, none⟩) m c)) := (Kw.refl S w).setCell hSq _
  have hlb : bs.dropLast.length = m := by rw [List.length_dropLast, HM.out]; omega
  have hl1 : bs.length - 1 = m := by rw [HM.out]; omega
  have hap' := H.out.apart g rfl
  have HW2 := Lib.hid hw2
  clear hw2
  go_enter Try.func32, Try.ntmps32
  go_wp2_with (fail)
  · have hw2 := HW2.out
    have hkm : k < m := by assumption
    have HK := Lib.hid hkm
    have hP2 := hw2.pile hlb (by omega)
    have hI := H.out.item la hlm
    have hI2 : ItemAt (w.setCell ⟨q, 0, none⟩ (.slice (some ⟨g, 0, none⟩) m c)) la (tm la) (pl la) := hI.far (p := ⟨q, 0, none⟩) (fun e => H.out.ne la hlm e.symm) _
    refine (putp_any q g m c la k bs.dropLast tm pl _ hP2 hlb (by omega) hI2 (hap'.2 la hlm) (H.out.ne la hlm) (by omega)).mono ?_
    rintro e w3 ⟨rfl, rfl⟩
    have hP3 := hP2.put k la (by omega) hI2 (hap'.2 la hlm) (H.out.ne la hlm)
    have hla3 : (bs.dropLast.set k la).getD k 0 = la := by
      rw [List.getD_eq_getElem?_getD, List.getElem?_set_self (by omega)]
      rfl
    have hS3 : ∀ b ∈ bs.dropLast.set k la, S b ∧ b ≠ q := fun b hb => ⟨by
      rcases List.mem_or_eq_of_mem_set hb with h | h
      · exact HSB.out b (List.dropLast_subset _ h)
      · exact h ▸ HSB.out la hlm, (hP3.ne b hb).2⟩
    have hkw3 : Kp (fun b => S b ∧ b ≠ q) (w.setCell ⟨q, 0, none⟩ (.slice (some ⟨g, 0, none⟩) m c)) (putW (w.setCell ⟨q, 0, none⟩ (.slice (some ⟨g, 0, none⟩) m c)) g k la) := ((Kp.refl (fun b => S b ∧ b ≠ q) _).setCell (p := ⟨g, k, none⟩) ⟨hSg g rfl, hP2.gq⟩ _).setCell (p := ⟨la, 3, none⟩) ⟨HSB.out la hlm, H.out.ne la hlm⟩ _
    go_wp2_with (fail)
    refine (up_any q g c k _ tm _ _ hP3 (by rw [List.length_set]; omega) (by rw [List.length_set]; omega) (fun b => S b ∧ b ≠ q) ⟨hSg g rfl, hP2.gq⟩ hS3 (cutMid tm bs k) (upP tm la k (bs.dropLast.set k la) k (plSet pl la k)) (by rw [hla3]; unfold cutMid; rw [hl1, HLA.out]) (by rw [hla3])).mono ?_
    rintro e w4 ⟨rfl, hP4, hk4⟩
    have hlm4 : (cutMid tm bs k).length = m := by unfold cutMid; rw [upL_length, List.length_set, hlb]
    have hS4 : ∀ b ∈ cutMid tm bs k, S b ∧ b ≠ q := fun b hb => ⟨by
      rcases upL_mem tm _ k _ k (by rw [List.length_set]; omega) b hb with h | h
      · rw [hl1, HLA.out] at h
        exact (hS3 b h).1
      · rw [h, hl1, HLA.out]
        exact HSB.out la hlm, (hP4.ne b hb).2⟩
    go_wp2_with (fail)
    refine (down_any q g c k _ tm _ _ hP4 (by omega) (by omega) (fun b => S b ∧ b ≠ q) ⟨hSg g rfl, hP2.gq⟩ hS4 (cutL tm bs k) (cutP tm bs k pl) (by unfold cutL; rw [hl1, if_pos HK.out, hlm4]) (by unfold cutP; rw [hl1, if_pos HK.out, hlm4, HLA.out])).mono ?_
    rintro e w5 ⟨rfl, hP5, hk5⟩
    have hk35 := hkw3.trans (hk4.trans hk5)
    have hfz5 : w5.frozen? ⟨q, 0, none⟩ = false := (hk35.shape.frozen hw2.l).trans hw2.fz
    obtain ⟨cur2, hcur2, hcs2⟩ := Shp.setCell w ⟨q, 0, none⟩ (.slice (some ⟨g, 0, none⟩) m c) g cur 65 (0, 0) HCUR.out
    obtain ⟨cur5, hcur5, hcs5⟩ := hk35.shape g cur2 65 (0, 0) hcur2
    have hl5 : (cutL tm bs k).length = m := by unfold cutL; rw [hl1, if_pos HK.out, downL_length, hlm4]
    go_wp2
    go_end0
    exact ⟨rfl, _, hP5.heap hl5 hfz5 hgB hmc hcm hcur5 (by omega), hkw2.trans (hk35.toKw.mono (fun b _ h => h.1)), rfl, fun i hi => (hk35.toKw.cell hw2.lt (fun h => h.2 rfl)).trans (sc_other (by intro e; cases e; exact hi rfl))⟩
  · have hkm : ¬ k < m := by assumption
    have hw2 := HW2.out
    go_end0
    refine ⟨rfl, .slice (some ⟨g, 0, none⟩) m c, ?_, hkw2, rfl, fun i hi => sc_other (by intro e; cases e; exact hi rfl)⟩
    unfold cutL cutP
    rw [hl1, if_neg hkm, if_neg hkm]
    exact hw2
end Go.Proofs.Ytlmnnbmihimedaa
