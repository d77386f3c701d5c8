/- Contract of shares.Drop. Conditions: as each theorem states them. -/
import Derived.Test.YtmalcekbhnkfgaaF4
import Derived.Test.YtmalcekbhnkfgaaE7
namespace Go.Proofs.Ytmalcekbhnkfgaa
open Go.RowKit Go.Maps Go.Shelf
set_option linter.unusedVariables false
set_option linter.unusedSimpArgs false

/-- The points of other numbers. -/
def dropL (l : List Pt) (id : Int) : List Pt := l.filter (fun p => decide (p.id ≠ id))
open Classical in
/-- What Drop answers. -/
noncomputable def dropE (l : List Pt) (id : Int) : Int := if RightP l then (if ∃ p ∈ l, p.id = id then 0 else 4) else 2
theorem dropE_2 {l : List Pt} {id : Int} (h : ¬ RightP l) : dropE l id = 2 := by unfold dropE; rw [if_neg h]
theorem dropE_4 {l : List Pt} {id : Int} (h : RightP l) (h2 : ∀ p ∈ l, p.id ≠ id) : dropE l id = 4 := by
  unfold dropE
  rw [if_pos h, if_neg (by rintro ⟨p, hp, e⟩; exact h2 p hp e)]
theorem dropE_0 {l : List Pt} {id : Int} (h : RightP l) {p : Pt} (hp : p ∈ l) (e : p.id = id) : dropE l id = 0 := by
  unfold dropE
  rw [if_pos h, if_pos ⟨p, hp, e⟩]
theorem filter_all {l : List Pt} {id : Int} (h : ∀ p ∈ l, p.id ≠ id) : dropL l id = l := by
  unfold dropL
  rw [List.filter_eq_self]
  intro p hp
  simpa using h p hp
theorem drop_split {l : List Pt} {id : Int} {i : Nat} (hu : idsUp l) (hi : i < l.length) (he : (l.getD i zeroP).id = id) : l.take i ++ l.drop (i + 1) = dropL l id := by
  have h1 : l = l.take i ++ (l.getD i zeroP :: l.drop (i + 1)) := by
    conv => lhs; rw [← List.take_append_drop i l, List.drop_eq_getElem_cons hi]
    rw [getP hi]
  generalize l.getD i zeroP = q at *
  have hu' : idsUp (l.take i ++ (q :: l.drop (i + 1))) := by rw [← h1]; exact hu
  obtain ⟨_, h2, h3⟩ := List.pairwise_append.1 hu'
  obtain ⟨h4, _⟩ := List.pairwise_cons.1 h2
  conv => rhs; rw [h1]
  unfold dropL
  rw [List.filter_append, List.filter_cons_of_neg (by simp [he])]
  have e1 := filter_all (l := l.take i) (id := id) (fun p hp => by have := h3 p hp q (by simp); omega)
  have e2 := filter_all (l := l.drop (i + 1)) (id := id) (fun p hp => by have := h4 p hp; omega)
  unfold dropL at e1 e2
  rw [e1, e2]
def DropPost (w : World) (l : List Pt) (id : Int) (e : Ending) (w' : World) : Prop :=
  ∃ v, e = .returned (.tuple #[v, .int .i64 (dropE l id)]) ∧ (dropE l id ≠ 0 → v = .slice none 0 0) ∧ (dropE l id = 0 → ∃ A' c' l', v = .slice A' (dropL l id).length c' ∧ sameP l' (dropL l id) ∧ OwnP w' w.heap.size A' l') ∧ Below w.heap.size w w'
set_option maxRecDepth 100000 in
set_option maxHeartbeats 4000000 in
theorem drop_len (A : Option Addr) (n c : Nat) (id : Int) (l : List Pt) (w : World) (hl : l.length = n) (hA : RdP w w.heap.size A l) :
    Calls Try.prog 26 #[.slice A n c, .int .u64 id] w (DropPost w l id) := by
  have HA := Lib.hid hA
  have HL := Lib.hid hl
  have HR := Lib.hid (fun (w' : World) (h : Below w.heap.size w w') => right_any A c l w' ((hA.below h).more h.size (Nat.le_refl _)))
  rw [hl] at HR
  have hbA := bl_alloc (Below.refl w.heap.size w) (Obj.cells #[.int .u64 id] 23)
  have bI := (Boxed.new w 23 (.int .u64 id)).cell
  have hsA : (w.alloc (Obj.cells #[.int .u64 id] 23)).heap.size = w.heap.size + 1 := by simp
  clear hA hl
  go_enter Try.func26, Try.ntmps26
  go_wp2_with (fail)
  generalize (w.alloc (Obj.cells #[.int .u64 id] 23)) = w1 at *
  have HB1 := Lib.hid hbA
  refine (HR.out w1 hbA).mono ?_
  rintro e w2 ⟨rfl, hb2⟩
  have hs2 := hb2.size
  have HB2 := Lib.hid (hbA.trans (hb2.mono hbA.size))
  have bI := (hb2.cell (p := ⟨w.heap.size, 0, none⟩) (by show w.heap.size < w1.heap.size; omega)).trans bI
  have hwl : w.heap.size < w2.heap.size := by omega
  have HI := Lib.hid bI
  clear hbA hb2 bI
  by_cases hr : RightP l
  · rw [rightB_t hr]
    have HRP := Lib.hid hr
    have hn16 : n ≤ 16 := by have := hr.1; rw [HL.out] at this; exact this
    clear hr
    go_wp2_with ((go_at_call 40; refine Hid.out ?_))
    refine Lib.hid ?_
    refine (index_any A n c w.heap.size id l w2 HL.out (by omega) ((HA.out.below HB2.out).more HB2.out.size (Nat.le_refl _)) HI.out hwl).mono ?_
    rintro e w3 ⟨⟨k, rfl, hk⟩, hb3⟩
    have HB3 := Lib.hid (HB2.out.trans (hb3.mono HB2.out.size))
    have hs3 := hb3.size
    clear hb3
    rcases hk with ⟨rfl, hno⟩ | ⟨i, rfl, hin, hie⟩
    · have HE : Hid (dropE l id = 4) := Lib.hid (dropE_4 HRP.out (fun p hp => by
        obtain ⟨j, hj, rfl⟩ := List.mem_iff_getElem.1 hp
        have := hno j (by rw [← HL.out]; exact hj)
        rwa [getP hj] at this))
      clear hno
      go_wp2_with (fail)
      go_ret2
      exact ⟨_, by rw [HE.out] <;> rfl, fun _ => rfl, fun h => by rw [HE.out] at h; omega, HB3.out⟩
    · have hE : dropE l id = 0 := dropE_0 HRP.out (getP_mem (by rw [HL.out]; exact hin)) hie
      have hD := drop_split HRP.out.2.2.1 (by rw [HL.out]; exact hin) hie
      have HE := Lib.hid hE
      have HD := Lib.hid hD
      have hki : ¬ (i : Int) < 0 := by omega
      have hk0 : (0 : Int) ≤ (i : Int) := by omega
      have hk1 : (i : Int) < (n : Int) := by omega
      clear hE hD hie
      go_wp2_with ((go_at_call 32; refine Hid.out ?_))
      refine Lib.hid ?_
      refine (cloneP_any A n c w.heap.size l w3 HL.out (HA.out.below HB3.out) (by omega)).mono ?_
      rintro e w4 ⟨v4, rfl, hown4, hb4⟩
      obtain ⟨g, cap, rfl, hgc, hgB, hgl⟩ : ∃ g cap, v4 = .slice (some ⟨g, 0, none⟩) n cap ∧ n ≤ cap ∧ w3.heap.size ≤ g ∧ g < w4.heap.size := by
        rcases own_form hown4 with ⟨_, h0⟩ | ⟨g, cap, e, h1, h2, h3⟩
        · omega
        · exact ⟨g, cap, e, h1, h2, h3⟩
      have HO4 := Lib.hid hown4
      have HB4 := Lib.hid (HB3.out.trans (hb4.mono HB3.out.size))
      have hs4 := hb4.size
      clear hown4 hb4
      go_wp2_with ((go_at_call 42; refine Hid.out ?_))
      refine Lib.hid ?_
      obtain ⟨m, rfl⟩ : ∃ m, n = m + 1 := ⟨n - 1, by omega⟩
      refine (delete_any w3.heap.size g m cap i l w4 HL.out (by omega) (by omega) HO4.out hs4).mono ?_
      rintro e w5 ⟨rfl, hown5, hk5⟩
      rw [HD.out] at hown5
      have hlD : (dropL l id).length = m := by
        rw [← HD.out, List.length_append, List.length_take, List.length_drop, HL.out]
        omega
      have hb5 : Below w3.heap.size w4 w5 := hk5.below hs4 (fun b e => by rw [e]; exact hgB)
      have HB5 : Hid (Below w.heap.size w w5) := Lib.hid (HB4.out.trans (hb5.mono HB3.out.size))
      have hs5 := HB5.out.size
      obtain ⟨A5, c5, e5, hr5, _⟩ := own_rp hown5 hlD (fun p hp => by
        have hpl : p ∈ l := (List.mem_filter.1 hp).1
        exact ⟨((HA.out.2 p hpl).1.below HB5.out).more hs5 (Nat.le_refl _), (HA.out.2 p hpl).2⟩)
      simp only [Value.slice.injEq] at e5
      obtain ⟨rfl, _, rfl⟩ := e5
      have HR5 := Lib.hid hr5
      have HLD := Lib.hid hlD
      have hs45 := hb5.size
      have hfd : ∀ p ∈ dropL l id, p.fs.length ≤ 1000000 := fun p hp => by
        have := (HRP.out.2.1 p (List.mem_filter.1 hp).1).2.1
        omega
      have HFD := Lib.hid hfd
      clear hown5 hk5 hb5 hr5 hlD hfd
      go_wp2_with ((go_at_call 31; refine Hid.out ?_))
      refine Lib.hid ?_
      refine (own_any (some ⟨g, 0, none⟩) cap m (dropL l id) w5 HLD.out HR5.out (by omega) HFD.out).mono ?_
      rintro e w6 ⟨A6, c6, l6, rfl, hs6, ho6, hb6⟩
      have HS6 := Lib.hid hs6
      have HO6 := Lib.hid (ho6.le HB5.out.size)
      have HB6 := Lib.hid (HB5.out.trans (hb6.mono HB5.out.size))
      clear hs6 ho6 hb6
      go_wp2_with (fail)
      go_ret2
      exact ⟨_, by rw [HE.out] <;> rfl, fun h => absurd HE.out h, fun _ => ⟨A6, c6, l6, by rw [HLD.out] <;> rfl, HS6.out, HO6.out⟩, HB6.out⟩
  · have HE : Hid (dropE l id = 2) := Lib.hid (dropE_2 hr)
    rw [rightB_f hr]
    clear hr
    go_wp2_with (fail)
    go_ret2
    exact ⟨_, by rw [HE.out] <;> rfl, fun _ => rfl, fun h => by rw [HE.out] at h; omega, HB2.out⟩
theorem drop_any (A : Option Addr) (c : Nat) (id : Int) (l : List Pt) (w : World) (hA : RdP w w.heap.size A l) : Calls Try.prog 26 #[.slice A l.length c, .int .u64 id] w (DropPost w l id) :=
  drop_len A l.length c id l w rfl hA
end Go.Proofs.Ytmalcekbhnkfgaa
