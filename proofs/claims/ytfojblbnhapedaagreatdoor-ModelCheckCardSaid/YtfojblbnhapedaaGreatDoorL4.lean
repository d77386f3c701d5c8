/- The reference's marks, new. Conditions: as each theorem states them. -/
import Derived.Test.YtfojblbnhapedaaGreatDoorP3
import Derived.Test.YtfojblbnhapedaaGreatDoorD1
namespace Go.Proofs.YtfojblbnhapedaaGreatDoor
open Go.RowKit Go.Maps
set_option linter.unusedVariables false
set_option linter.unusedSimpArgs false

theorem und32 : Tryz.prog.underlying 32 = some (.slice 2) := by kernel_rfl
theorem und33 : Tryz.prog.underlying 33 = some (.slice 4) := by kernel_rfl
theorem i4r : (Tryz.prog.info? 4).map (fun i => (i.zero, i.size, i.bytes)) = some (some (.bool false), 1, 1) := by kernel_rfl
def rlo (n : Nat) : List Value := List.replicate n (.int .i64 (-1125899906842624))
def rno (n : Nat) : List Value := List.replicate n (.bool false)
theorem rlo_succ (n : Nat) : rlo (n + 1) = rlo n ++ [.int .i64 (-1125899906842624)] := List.replicate_succ'
theorem rno_succ (n : Nat) : rno (n + 1) = rno n ++ [.bool false] := List.replicate_succ'
set_option maxRecDepth 100000 in
set_option maxHeartbeats 8000000 in
theorem rmk_no (n b : Int) (w : World) (h : ¬ mkP n b) : Calls Tryz.prog 37 #[.int .i64 n, .int .i64 b] w fun e w' => e = .returned (.tuple #[.agg #[.int .i64 0, .int .i64 0, .slice none 0 0, .slice none 0 0], .int .i64 2]) ∧ Below w.heap.size w w' := by
  have HB := Lib.hid (bl_alloc (Below.refl w.heap.size w) (Obj.cells #[.int .i64 0, .int .i64 0, .slice none 0 0, .slice none 0 0] 35))
  have HS : Hid ((w.alloc (Obj.cells #[.int .i64 0, .int .i64 0, .slice none 0 0, .slice none 0 0] 35)).heap.size = w.heap.size + 1) := Lib.hid (by simp)
  unfold mkP at h
  by_cases h1 : n < 1
  · clear h
    go_enter Tryz.func37, Tryz.ntmps37
    go_wp2_with (fail)
    refine bodyPost_ret (v := .tuple #[.agg #[.int .i64 0, .int .i64 0, .slice none 0 0, .slice none 0 0], .int .i64 2]) (by simp only [results, Tryz.results37]; go_simp) rfl ?_
    exact ⟨rfl, HB.out⟩
  by_cases h2 : 16 < n
  · clear h
    go_enter Tryz.func37, Tryz.ntmps37
    go_wp2_with (fail)
    refine bodyPost_ret (v := .tuple #[.agg #[.int .i64 0, .int .i64 0, .slice none 0 0, .slice none 0 0], .int .i64 2]) (by simp only [results, Tryz.results37]; go_simp) rfl ?_
    exact ⟨rfl, HB.out⟩
  by_cases h3 : b < 0
  · clear h
    go_enter Tryz.func37, Tryz.ntmps37
    go_wp2_with (fail)
    refine bodyPost_ret (v := .tuple #[.agg #[.int .i64 0, .int .i64 0, .slice none 0 0, .slice none 0 0], .int .i64 2]) (by simp only [results, Tryz.results37]; go_simp) rfl ?_
    exact ⟨rfl, HB.out⟩
  by_cases h4 : 1099511627776 < b
  · clear h
    go_enter Tryz.func37, Tryz.ntmps37
    go_wp2_with (fail)
    refine bodyPost_ret (v := .tuple #[.agg #[.int .i64 0, .int .i64 0, .slice none 0 0, .slice none 0 0], .int .i64 2]) (by simp only [results, Tryz.results37]; go_simp) rfl ?_
    exact ⟨rfl, HB.out⟩
  exact absurd ⟨by omega, by omega, by omega, by omega⟩ h
theorem lo_ne {w : World} {g : Nat} {a b : Array Value} {t u : TypeId} (h : w.heap[g]? = some (Obj.cells a t)) (h2 : w.heap[g]? = some (Obj.cells b u)) : t = u := by
  rw [h] at h2
  injection h2 with h2
  injection h2
theorem kw_set4 (w : World) (X : Nat) (a b c d : Value) : Kw (fun q => q = X) w ((((w.setCell ⟨X, 0, none⟩ a).setCell ⟨X, 1, none⟩ b).setCell ⟨X, 2, none⟩ c).setCell ⟨X, 3, none⟩ d) := by
  have h0 := Kw.refl (fun q => q = X) w
  have h1 := h0.setCell (p := ⟨X, 0, none⟩) rfl a
  have h2 := h1.setCell (p := ⟨X, 1, none⟩) rfl b
  have h3 := h2.setCell (p := ⟨X, 2, none⟩) rfl c
  exact h3.setCell (p := ⟨X, 3, none⟩) rfl d
/-- A row's block holds its own kind. -/
theorem own_type {w : World} {B e sz n g : Nat} {v : Value} {xs : List Value} (h : w.ownsRow B e sz v n xs) (hs : v.ownBlock = some g) : B ≤ g ∧ ∃ cur, w.heap[g]? = some (Obj.cells cur e) := by
  rcases h.2 with ⟨e0, _⟩ | ⟨g2, c, cur, e0, hB, hg, _⟩
  · rw [e0] at hs; cases hs
  · rw [e0] at hs
    injection hs with hs
    subst hs
    exact ⟨hB, cur, hg⟩
/-- What stays, when a row grows and is stored in a block of another kind. -/
theorem row_step {wa w5 : World} {B e X i : Nat} {v v' vn : Value} {n n' : Nat} {xs xs' : List Value} {cs : Array Value} {t : TypeId} (ho : wa.ownsRow B e 1 v n xs) (ho5 : w5.ownsRow B e 1 v' n' xs') (hg5 : wa.grownBy w5 v.ownBlock) (hX : wa.heap[X]? = some (Obj.cells cs t)) (ht : t ≠ e) (hBX : B ≤ X) (hBw : B ≤ wa.heap.size) :
    (w5.setCell ⟨X, i, none⟩ vn).heap[X]? = some (Obj.cells (cs.setIfInBounds i vn) t) ∧ (w5.setCell ⟨X, i, none⟩ vn).ownsRow B e 1 v' n' xs' ∧ Kw (fun b => v.ownBlock = some b ∨ b = X) wa (w5.setCell ⟨X, i, none⟩ vn) ∧ X < w5.heap.size ∧ Below B wa (w5.setCell ⟨X, i, none⟩ vn) ∧ w5.heap[X]? = some (Obj.cells cs t) := by
  have hx5 : w5.heap[X]? = some (Obj.cells cs t) := (hg5.block X (Array.getElem?_eq_some_iff.1 hX).1 (fun hs => by
    obtain ⟨_, cur, hc⟩ := own_type ho hs.symm
    exact ht (lo_ne hX hc))).trans hX
  have hk : Kw (fun b => v.ownBlock = some b ∨ b = X) wa (w5.setCell ⟨X, i, none⟩ vn) := ((Kw.refl _ _).grown hg5 (fun k hk => .inl hk)).setCell (.inr rfl) vn
  refine ⟨set_heap hx5, own_kwB ho5 ((Kw.refl (fun b => b = X) w5).setCell rfl vn) (fun g cur hg e2 => ?_), hk, (Array.getElem?_eq_some_iff.1 hx5).1, hk.below hBw (fun b hb => ?_), hx5⟩
  · subst e2
    exact ht (lo_ne hx5 hg)
  · rcases hb with hb | rfl
    · exact (own_type ho hb).1
    · exact hBX
set_option maxRecDepth 100000 in
set_option maxHeartbeats 8000000 in
theorem rmk_yes (n : Nat) (b : Int) (w : World) (h : mkP n b) : Calls Tryz.prog 37 #[.int .i64 n, .int .i64 b] w fun e w' => ∃ v1 v2, e = .returned (.tuple #[.agg #[.int .i64 b, .int .i64 (-1125899906842624), v1, v2], .int .i64 0]) ∧ w'.ownsRow w.heap.size 2 1 v1 n (rlo n) ∧ w'.ownsRow w.heap.size 4 1 v2 n (rno n) ∧ Below w.heap.size w w' := by
  unfold mkP at h
  obtain ⟨h1, h2, h3, h4⟩ := h
  have h1' : ¬ (n : Int) < 1 := by omega
  have h2' : ¬ (16 : Int) < n := by omega
  have h3' : ¬ b < 0 := by omega
  have h4' : ¬ 1099511627776 < b := by omega
  clear h1 h2 h3 h4
  have hba := bl_alloc (bl_alloc (Below.refl w.heap.size w) (Obj.cells #[.int .i64 0, .int .i64 0, .slice none 0 0, .slice none 0 0] 35)) (Obj.cells #[.int .i64 b, .int .i64 (-1125899906842624), .slice none 0 0, .slice none 0 0] 35)
  have hs1 : (w.alloc (Obj.cells #[.int .i64 0, .int .i64 0, .slice none 0 0, .slice none 0 0] 35)).heap.size = w.heap.size + 1 := by simp
  have hn1 := heap_alloc_new (w.alloc (Obj.cells #[.int .i64 0, .int .i64 0, .slice none 0 0, .slice none 0 0] 35)) (Obj.cells #[.int .i64 b, .int .i64 (-1125899906842624), .slice none 0 0, .slice none 0 0] 35)
  have hn0 := ((Below.refl _ _).alloc (Nat.le_refl _) (Obj.cells #[.int .i64 b, .int .i64 (-1125899906842624), .slice none 0 0, .slice none 0 0] 35)).block w.heap.size (by rw [hs1]; omega) |>.trans (heap_alloc_new w (Obj.cells #[.int .i64 0, .int .i64 0, .slice none 0 0, .slice none 0 0] 35))
  rw [hs1] at hn1
  have HB := Lib.hid hba
  have HN := Lib.hid hn1
  have HN0 := Lib.hid hn0
  clear hba hn1 hs1 hn0
  go_enter Tryz.func37, Tryz.ntmps37
  go_wp2_with (fail)
  go_loopw [7] (fun vi wr => ∃ i : Nat, ∃ v1 v2, i ≤ n ∧ vi = .int .i64 i ∧ wr.heap[w.heap.size + 1]? = some (Obj.cells #[.int .i64 b, .int .i64 (-1125899906842624), v1, v2] 35) ∧ wr.heap[w.heap.size]? = some (Obj.cells #[.int .i64 0, .int .i64 0, .slice none 0 0, .slice none 0 0] 35) ∧ wr.ownsRow w.heap.size 2 1 v1 i (rlo i) ∧ wr.ownsRow w.heap.size 4 1 v2 i (rno i) ∧ Below w.heap.size w wr) (fun i _ => n - (intOf i).toNat)
  case atStart => exact ⟨0, .slice none 0 0, .slice none 0 0, Nat.zero_le _, rfl, HN.out, HN0.out, ⟨rfl, .inl ⟨rfl, rfl⟩⟩, ⟨rfl, .inl ⟨rfl, rfl⟩⟩, HB.out⟩
  case round =>
    obtain ⟨i, v1, v2, hin, rfl, hx, hx0, ho1, ho2, hbl⟩ := hrel
    have HX := Lib.hid hx
    have HX0 := Lib.hid hx0
    have HO1 := Lib.hid ho1
    have HO2 := Lib.hid ho2
    have HBL := Lib.hid hbl
    have hsz := (Array.getElem?_eq_some_iff.1 hx).1
    have hsz0 := (Array.getElem?_eq_some_iff.1 hx0).1
    have x0 := cell_of hx 0
    have x1 := cell_of hx 1
    have x2 := cell_of hx 2
    have x3 := cell_of hx 3
    simp only [List.getElem?_toArray, List.getElem?_cons_zero, List.getElem?_cons_succ] at x0 x1 x2 x3
    by_cases hi : i < n
    case neg =>
      have hi1 : ¬ (i : Int) < (n : Int) := by omega
      obtain rfl : i = n := by omega
      obtain ⟨A1, c1, hv1, _⟩ := own_read ho1 (by decide)
      obtain ⟨A2, c2, hv2, _⟩ := own_read ho2 (by decide)
      subst hv1 hv2
      have y0 := cell_of hx0 0
      have y1 := cell_of hx0 1
      have y2 := cell_of hx0 2
      have y3 := cell_of hx0 3
      simp only [List.getElem?_toArray, List.getElem?_cons_zero, List.getElem?_cons_succ] at y0 y1 y2 y3
      have z0 := froz_of hx0 0
      have z1 := froz_of hx0 1
      have z2 := froz_of hx0 2
      have z3 := froz_of hx0 3
      have hk4 := kw_set4 wr w.heap.size (.int .i64 b) (.int .i64 (-1125899906842624)) (.slice A1 i c1) (.slice A2 i c2)
      have HF1 := Lib.hid (own_kwB ho1 hk4 (fun g cur hg e2 => by subst e2; exact absurd (lo_ne hx0 hg) (by decide)))
      have HF2 := Lib.hid (own_kwB ho2 hk4 (fun g cur hg e2 => by subst e2; exact absurd (lo_ne hx0 hg) (by decide)))
      have HFB := Lib.hid (hbl.trans (hk4.below (Nat.le_of_lt hsz0) (fun q hq => by omega)))
      have HFH := Lib.hid (set_heap (i := 3) (v := .slice A2 i c2) (set_heap (i := 2) (v := .slice A1 i c1) (set_heap (i := 1) (v := .int .i64 (-1125899906842624)) (set_heap (i := 0) (v := .int .i64 b) hx0))))
      clear hk4 hx hx0 ho1 ho2 hbl
      go_wp2_with (fail)
      have f0 := cell_of HFH.out 0
      have f1 := cell_of HFH.out 1
      have f2 := cell_of HFH.out 2
      have f3 := cell_of HFH.out 3
      refine bodyPost_ret (v := .tuple #[.agg #[.int .i64 b, .int .i64 (-1125899906842624), .slice A1 i c1, .slice A2 i c2], .int .i64 0]) (by simp only [results, Tryz.results37]; simp at f0 f1 f2 f3; go_simp) rfl ?_
      exact ⟨_, _, rfl, HF1.out, HF2.out, HFB.out⟩
    have hi1 : (i : Int) < (n : Int) := by omega
    have hba := bl_alloc (Below.refl wr.heap.size wr) (Obj.cells #[.int .i64 (-1125899906842624)] 2)
    have HBA := Lib.hid (hbl.trans (hba.mono hbl.size))
    have HOA := Lib.hid (own_below ho1 hba)
    have HOB := Lib.hid (own_below ho2 hba)
    have HXA := Lib.hid ((hba.block _ hsz).trans hx)
    have HXB := Lib.hid ((hba.block _ hsz0).trans hx0)
    have HNR : Hid ((wr.alloc (Obj.cells #[.int .i64 (-1125899906842624)] 2)).ownsRow 0 2 1 (.slice (some ⟨wr.heap.size, 0, none⟩) 1 1) 1 [.int .i64 (-1125899906842624)]) := Lib.hid (own_one (news := [.int .i64 (-1125899906842624)]) (heap_alloc_new wr _) rfl (Nat.zero_le _))
    have HON : Hid (∀ q ∈ [Value.int .i64 (-1125899906842624)], q.oneCell' = true) := Lib.hid (by simp [Value.oneCell'])
    have hdl : i + 1 ≤ 4000000 := by omega
    have hbz : w.heap.size ≤ (wr.alloc (Obj.cells #[.int .i64 (-1125899906842624)] 2)).heap.size := by simp; omega
    clear hba hx hx0 ho1 ho2 hbl
    go_wp2_with (at_builtin; refine wpList_append_row _ rfl _ _ 32 2 1 8 (.int .i64 0) und32 i2r rfl (by decide) (by decide) rfl w.heap.size 0 i v1 _ rfl HOA.out _ 1 _ rfl HNR.out HON.out hdl hbz ?_)
    intro v' w5 ho5 hg5 hl5
    obtain ⟨A3, c3, hv3, _⟩ := own_read ho5 (by decide)
    subst hv3
    obtain ⟨r1, r2, r3, r4, r5, r6⟩ := row_step (i := 2) (vn := .slice A3 (i + 1) c3) HOA.out ho5 hg5 HXA.out (by decide) (by omega) hbz
    have HR1 := Lib.hid r1
    have HR2 := Lib.hid r2
    have HOC := Lib.hid (own_kwB HOB.out r3 (fun g cur hg e2 => by
      rcases e2 with e2 | e2
      · obtain ⟨_, cur2, h2⟩ := own_type HOA.out e2
        exact absurd (lo_ne hg h2) (by decide)
      · subst e2
        exact absurd (lo_ne HXA.out hg) (by decide)))
    have HXC := Lib.hid ((r3.block _ (Array.getElem?_eq_some_iff.1 HXB.out).1 (fun e2 => by
      rcases e2 with e2 | e2
      · obtain ⟨_, cur2, h2⟩ := own_type HOA.out e2
        exact absurd (lo_ne HXB.out h2) (by decide)
      · omega)).trans HXB.out)
    have HB5 := Lib.hid (HBA.out.trans r5)
    have y2 := cell_of r6 2
    simp only [List.getElem?_toArray, List.getElem?_cons_zero, List.getElem?_cons_succ] at y2
    have z2 := froz_of r6 2
    have y3 := cell_of r6 3
    have z3 := froz_of r6 3
    simp only [List.getElem?_toArray, List.getElem?_cons_zero, List.getElem?_cons_succ] at y3
    have hs6 := r4
    have hr1 := r1
    clear r1 r2 r3 r5 r6 ho5 hg5 hl5 hsz hsz0 x0 x1 x2 x3
    obtain ⟨W6, hW6⟩ : ∃ W6, w5.setCell ⟨w.heap.size + 1, 2, none⟩ (.slice A3 (i + 1) c3) = W6 := ⟨_, rfl⟩
    rw [hW6] at HR1 HR2 HOC HXC HB5 hr1
    have hba := bl_alloc (Below.refl W6.heap.size W6) (Obj.cells #[.bool false] 4)
    have hsx := (Array.getElem?_eq_some_iff.1 hr1).1
    have HB6 := Lib.hid (HB5.out.trans (hba.mono HB5.out.size))
    have HO6 := Lib.hid (own_below HR2.out hba)
    have HP6 := Lib.hid (own_below HOC.out hba)
    have HX6 := Lib.hid ((hba.block _ hsx).trans hr1)
    have HY6 := Lib.hid ((hba.block _ (Array.getElem?_eq_some_iff.1 HXC.out).1).trans HXC.out)
    have HNR6 : Hid ((W6.alloc (Obj.cells #[.bool false] 4)).ownsRow 0 4 1 (.slice (some ⟨W6.heap.size, 0, none⟩) 1 1) 1 [.bool false]) := Lib.hid (own_one (news := [.bool false]) (heap_alloc_new W6 _) rfl (Nat.zero_le _))
    have hz6 : W6.heap.size = w5.heap.size := by rw [← hW6]; simp
    rw [hz6] at HNR6
    have HON6 : Hid (∀ q ∈ [Value.bool false], q.oneCell' = true) := Lib.hid (by simp [Value.oneCell'])
    have hbz6 : w.heap.size ≤ (W6.alloc (Obj.cells #[.bool false] 4)).heap.size := by have := HB6.out.size; exact this
    clear hba hr1 hsx hz6
    subst hW6
    go_wp2_with (at_builtin; refine wpList_append_row _ rfl _ _ 33 4 1 1 (.bool false) und33 i4r rfl (by decide) (by decide) rfl w.heap.size 0 i v2 _ rfl HP6.out _ 1 _ rfl HNR6.out HON6.out hdl hbz6 ?_)
    intro v'' w7 ho7 hg7 hl7
    obtain ⟨A4, c4, hv4, _⟩ := own_read ho7 (by decide)
    subst hv4
    obtain ⟨r1, r2, r3, r4', r5, r6⟩ := row_step (i := 3) (vn := .slice A4 (i + 1) c4) HP6.out ho7 hg7 HX6.out (by decide) (by omega) hbz6
    have HS1 := Lib.hid r1
    have HS2 := Lib.hid r2
    have HOD := Lib.hid (own_kwB HO6.out r3 (fun g cur hg e2 => by
      rcases e2 with e2 | e2
      · obtain ⟨_, cur2, h2⟩ := own_type HP6.out e2
        exact absurd (lo_ne hg h2) (by decide)
      · subst e2
        exact absurd (lo_ne HX6.out hg) (by decide)))
    have HXD := Lib.hid ((r3.block _ (Array.getElem?_eq_some_iff.1 HY6.out).1 (fun e2 => by
      rcases e2 with e2 | e2
      · obtain ⟨_, cur2, h2⟩ := own_type HP6.out e2
        exact absurd (lo_ne HY6.out h2) (by decide)
      · omega)).trans HY6.out)
    have HB7 := Lib.hid (HB6.out.trans r5)
    have q3 := cell_of r6 3
    simp only [List.getElem?_toArray, List.getElem?_cons_zero, List.getElem?_cons_succ, List.setIfInBounds_toArray, List.set_cons_succ, List.set_cons_zero] at q3
    have p3 := froz_of r6 3
    clear r1 r2 r3 r5 r6 ho7 hg7 hl7
    go_wp2_with (fail)
    exact ⟨⟨i + 1, _, _, by omega, by push_cast; rfl, HS1.out, HXD.out, by rw [rlo_succ]; exact HOD.out, by rw [rno_succ]; exact HS2.out, HB7.out⟩, by simp [intOf]; omega⟩
end Go.Proofs.YtfojblbnhapedaaGreatDoor
