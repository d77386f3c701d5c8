/- A slice of timers as an argument, and as a row of one's own; Drop at the level of timers. Conditions: as each theorem states them. -/
import Derived.Test.YtlmnnbmihimedaaG1
import Derived.Deep.SlicePairs
import Derived.ProofKit
import Derived.OpenShut
namespace Go.Proofs.Ytlmnnbmihimedaa
open Go.RowKit Go.Maps Go.ChangeShapes Go.WideShapes Go.Deep
set_option linter.unusedVariables false
set_option linter.unusedSimpArgs false

/-- From the address A on, in a block below B, the timers l stand. -/
def RdT (w : World) (B : Nat) (A : Option Addr) (l : List Tm) : Prop :=
  0 < l.length → ∃ b off, A = some ⟨b, off, none⟩ ∧ b < B ∧ B ≤ w.heap.size ∧ ∀ i, i < l.length → w.cell? ⟨b, off + i * 3, none⟩ = some (.int .i64 (l.getD i zeroT).t) ∧ w.cell? ⟨b, off + i * 3 + 1, none⟩ = some (.string (l.getD i zeroT).k) ∧ w.cell? ⟨b, off + i * 3 + 2, none⟩ = some (.string (l.getD i zeroT).s)
theorem RdT.kw {w w' : World} {S : Nat → Prop} {B : Nat} {A : Option Addr} {l : List Tm} (h : RdT w B A l) (k : Kw S w w') (hS : ∀ b, b < B → ¬ S b) : RdT w' B A l := by
  intro hl
  obtain ⟨b, off, e, hb, hB, hc⟩ := h hl
  have hs := k.size
  refine ⟨b, off, e, hb, by omega, fun i hi => ?_⟩
  have hlt : b < w.heap.size := by omega
  obtain ⟨c0, c1, c2⟩ := hc i hi
  exact ⟨(k.cell hlt (hS b hb)).trans c0, (k.cell hlt (hS b hb)).trans c1, (k.cell hlt (hS b hb)).trans c2⟩
theorem RdT.below {w w' : World} {B : Nat} {A : Option Addr} {l : List Tm} (h : RdT w B A l) (k : Below w.heap.size w w') : RdT w' B A l :=
  h.kw (S := fun _ => False) (Kw.ofBelow k) (fun _ _ h => h)
theorem RdT.more {w : World} {B B' : Nat} {A : Option Addr} {l : List Tm} (h : RdT w B A l) (h1 : B ≤ B') (h2 : B' ≤ w.heap.size) : RdT w B' A l := by
  intro hl
  obtain ⟨b, off, e, hb, hB, hc⟩ := h hl
  exact ⟨b, off, e, by omega, h2, hc⟩
/-- A row of one's own reads as timers. -/
theorem own_rd {w : World} {B : Nat} {v : Value} {l : List Tm} (h : w.ownsRow B 23 3 v l.length (tcells l)) : ∃ A c, v = .slice A l.length c ∧ l.length ≤ c ∧ RdT w w.heap.size A l ∧ ∀ a, A = some a → v.ownBlock = some a.block := by
  rcases h.2 with ⟨rfl, h0⟩ | ⟨g, c, cur, rfl, hb, hg, hnc, hcm, hs, ht⟩
  · exact ⟨none, 0, by rw [h0], by omega, fun hl => by omega, fun a ha => by cases ha⟩
  · refine ⟨_, c, rfl, hnc, fun hl => ⟨g, 0, rfl, (Array.getElem?_eq_some_iff.1 hg).1, Nat.le_refl _, fun i hi => ?_⟩, fun a ha => by cases ha; rfl⟩
    have hcell : ∀ j u, (tcells l)[j]? = some u → w.cell? ⟨g, j, none⟩ = some u := fun j u hu => by
      rw [← ht, List.getElem?_take] at hu
      split at hu
      · simp only [World.cell?, hg]
        simpa using hu
      · cases hu
    have hget : l[i]? = some (l.getD i zeroT) := by
      rw [List.getD_eq_getElem?_getD, List.getElem?_eq_getElem hi]
      rfl
    refine ⟨?_, ?_, ?_⟩
    · rw [Nat.zero_add]
      apply hcell
      rw [tcells_get, show i * 3 / 3 = i by omega, show i * 3 % 3 = 0 by omega, hget]
      rfl
    · rw [Nat.zero_add]
      apply hcell
      rw [tcells_get, show (i * 3 + 1) / 3 = i by omega, show (i * 3 + 1) % 3 = 1 by omega, hget]
      rfl
    · rw [Nat.zero_add]
      apply hcell
      rw [tcells_get, show (i * 3 + 2) / 3 = i by omega, show (i * 3 + 2) % 3 = 2 by omega, hget]
      rfl
section
variable {H : Type} {enc : TypeId × Value → H} {w : World} {base : Nat} {spare : Nat → Bool} {held : Bool} {r : Reach} {b0 : Nat}
theorem open_timers {v : Value} {d : DataW H} {ps : List MemPlace} (hv : Value.okWide Try.prog w r b0 30 v) (h : DataW.Trod enc Try.prog w base spare held 30 v d ps) :
    ∃ A c l, v = .slice A (List.length (α := Tm) l) c ∧ RdT w w.heap.size A l ∧ l.length ≤ c ∧ l.length ≤ maxLen := by
  obtain ⟨a, len, cap, rfl⟩ := okWide_slice und30 hv
  obtain ⟨fuel, hf⟩ := h
  rcases open_slice und30 hf with ⟨h0, _⟩ | ⟨a', len', cap', m, n, D, Pl, h0, hb, hl, hm, hmm, _, hx⟩
  · simp [Value.cells] at h0
    obtain ⟨rfl, rfl, rfl⟩ := h0
    exact ⟨none, 0, [], rfl, fun h => by simp at h, by simp, by simp⟩
  · simp [Value.cells] at h0
    obtain ⟨rfl, rfl, rfl⟩ := h0
    have hlm : len ≤ m := by rw [hmm]; split <;> omega
    have each : ∀ i, i < len → ∃ q : Tm, w.cell? (a'.add (i * 3)) = some (.int .i64 q.t) ∧ w.cell? (a'.add (i * 3 + 1)) = some (.string q.k) ∧ w.cell? (a'.add (i * 3 + 2)) = some (.string q.s) := by
      intro i hi
      obtain ⟨cs', h1, h2⟩ := hx i (by omega)
      rw [c23] at h1
      obtain ⟨_, hlen, hcell⟩ := World.cells?_some h1
      obtain ⟨xs, k, hk, hxy, _, hxl, hf⟩ := DataW.trod_struct Try.underlying23 h2
      match xs, hxl, cs', hlen with
      | [y0, y1, y2], _, [v0, v1, v2], _ =>
        have g0 := hf 0 _ rfl
        have g1 := hf 1 _ rfl
        have g2 := hf 2 _ rfl
        simp [c2, c9] at g0 g1 g2
        obtain ⟨n0, e0, _, _⟩ := DataW.trod_int Try.underlying2 g0
        obtain ⟨n1, e1, _, _⟩ := DataW.trod_string Try.underlying9 g1
        obtain ⟨n2, e2, _, _⟩ := DataW.trod_string Try.underlying9 g2
        simp at e0 e1 e2
        subst e0 e1 e2
        have q0 := hcell 0 (by omega)
        have q1 := hcell 1 (by omega)
        have q2 := hcell 2 (by omega)
        rw [add_add] at q0 q1 q2
        exact ⟨⟨n0, n1, n2⟩, by simpa using q0, by simpa using q1, by simpa using q2⟩
    obtain ⟨q, hq⟩ := choose_lt each
    have hlen : ((List.range len).map q).length = len := by simp
    refine ⟨some a', cap, (List.range len).map q, by rw [hlen], fun hn => ?_, by rw [hlen]; exact hl, by rw [hlen]; omega⟩
    rw [hlen] at hn ⊢
    obtain ⟨q0, _⟩ := hq 0 hn
    have hs := World.cell?_spot q0
    obtain ⟨b, off, sp⟩ := a'
    have hs : sp = none := by simpa [Addr.add] using hs
    subst hs
    refine ⟨b, off, rfl, ?_, Nat.le_refl _, fun i hi => ?_⟩
    · simp only [Addr.add_lit] at q0
      by_cases hlt : b < w.heap.size
      · exact hlt
      · have : w.heap[b]? = none := by simp; omega
        simp [World.cell?, this] at q0
    · obtain ⟨q1, q2, q3⟩ := hq i hi
      rw [List.getD_eq_getElem?_getD, List.getElem?_map, List.getElem?_range hi]
      simp only [Addr.add_lit] at q1 q2 q3
      exact ⟨q1, q2, q3⟩
end
open Classical in
/-- What Drop answers. -/
noncomputable def dropR (T : List Tm) (x : Tm) : Int := if chkT x ≠ 0 then 2 else if x ∈ T then 0 else 4
theorem dropL (B q m : Nat) (T : List Tm) (F : Nat → Prop) (x : Tm) (w : World) (h : QL w B q m T F) :
    Calls Try.prog 26 #[.pointer (some ⟨q, 0, none⟩), tmV x] w fun e w' => e = .returned (.int .i64 (dropR T x)) ∧ Kw F w w' ∧ ∃ T', QL w' B q m T' F ∧ ((dropR T x = 0 ∧ T.Perm (x :: T')) ∨ (dropR T x ≠ 0 ∧ T' = T)) := by
  have h0 := h
  obtain ⟨v, bs, tm, pl, h1, h2, h3, h4, h5⟩ := h
  by_cases hx : chkT x = 0
  · by_cases hm : x ∈ T
    · have hr : dropR T x = 0 := by unfold dropR; rw [if_neg (by simp [hx]), if_pos hm]
      rw [hr]
      obtain ⟨b, hb, hbx⟩ := List.mem_map.1 (h3.mem_iff.2 hm)
      obtain ⟨k, hk, hkb⟩ := List.mem_iff_getElem.1 hb
      have hbx' : tm (bs.getD k 0) = x := by rw [getD_get hk, hkb, hbx]
      refine (drop_ok B q m v bs tm pl x w h1 hx k hk hbx' h2 (by omega)).mono ?_
      rintro e w' ⟨rfl, v', hq', hk', hv'⟩
      have hcp := cut_perm tm bs k hk
      refine ⟨rfl, hk'.mono (fun b _ hb => h5 b hb), (cutL tm bs k).map tm, ⟨v', _, tm, _, hq', h2.cut k hk, List.Perm.refl _, ?_, ?_⟩, .inl ⟨rfl, ?_⟩⟩
      · have := cut_length tm bs k hk
        omega
      · intro c hc
        rcases hc with h | h | h | h
        · exact h5 c (.inl h)
        · exact h5 c (.inr (.inl h))
        · exact h5 c (.inr (.inr (.inl (hcp.mem_iff.1 (List.mem_cons_of_mem _ h)))))
        · exact h5 c (.inr (.inr (.inr (hv' ▸ h))))
      · refine h3.symm.trans ((hcp.symm.map tm).trans ?_)
        rw [List.map_cons, hbx']
    · have hr : dropR T x = 4 := by unfold dropR; rw [if_neg (by simp [hx]), if_neg hm]
      rw [hr]
      have hnb : ∀ b ∈ bs, tm b ≠ x := fun b hb e => hm (h3.mem_iff.1 (e ▸ List.mem_map_of_mem hb))
      refine (drop_absent B q m v bs tm pl x w h1 hx hnb).mono ?_
      rintro e w' ⟨rfl, hb⟩
      exact ⟨rfl, Kw.ofBelow hb, T, h0.below hb, .inr ⟨by decide, rfl⟩⟩
  · have hr : dropR T x = 2 := by unfold dropR; rw [if_pos hx]
    rw [hr]
    refine (drop_arg B q m v bs tm pl x w h1 hx).mono ?_
    rintro e w' ⟨rfl, hb⟩
    exact ⟨rfl, Kw.ofBelow hb, T, h0.below hb, .inr ⟨by decide, rfl⟩⟩
end Go.Proofs.Ytlmnnbmihimedaa
