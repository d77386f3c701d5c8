/- The walk of ModelStands. Conditions: as each theorem states them. -/
import Derived.Test.YtfojblbnhapedaaGreatDoorX9
import Derived.Deep.RegionHeld3
import Derived.Test.YtfojblbnhapedaaGreatDoorZ6
import Derived.Test.YtfojblbnhapedaaGreatDoorY2
namespace Go.Proofs.YtfojblbnhapedaaGreatDoor
open Go.RowKit Go.Maps
set_option linter.unusedVariables false
set_option linter.unusedSimpArgs false

/-- A window and its text. -/
abbrev Ct := (Int × Int) × ByteArray
def openP (j : Jb) (P : PL) (i : Nat) (key : ByteArray) : List Ct := (winsP P i key).map fun w => (w, FT (aggJ j i) (val1 P ⟨i, key, w.1, w.2⟩))
def ctcells (l : List Ct) : List Value := l.flatMap fun c => [.int .i64 c.1.1, .int .i64 c.1.2, .string c.2]
theorem ctcells_app (l m : List Ct) : ctcells (l ++ m) = ctcells l ++ ctcells m := List.flatMap_append
theorem ctcells_one (l : List Ct) : ∀ u ∈ ctcells l, u.oneCell' = true := by
  intro u hu
  obtain ⟨o, _, ho⟩ := List.mem_flatMap.1 hu
  simp only [List.mem_cons, List.not_mem_nil, or_false] at ho
  rcases ho with rfl | rfl | rfl <;> rfl
theorem und70 : Tryz.prog.underlying 70 = some (.slice 75) := by kernel_rfl
theorem i75 : (Tryz.prog.info? 75).map (fun i => (i.zero, i.size, i.bytes)) = some (some (.agg #[.int .i64 0, .int .i64 0, .string ⟨#[]⟩]), 3, 32) := by kernel_rfl
theorem winsP_len {w : World} {B : Lo} {j : Jb} {s : QS} {n : Nat} (h : St w B j s n) (op : Int) (key : ByteArray) : (winsP s.2 op key).length ≤ 1024 := by
  unfold winsP
  rw [(sortW_perm _).length_eq]
  unfold pickP
  rw [List.length_map]
  exact Nat.le_trans (List.length_filter_le _ _) h.len
set_option maxRecDepth 100000 in
set_option maxHeartbeats 8000000 in
theorem open_st {w : World} {B : Lo} {j : Jb} {s : QS} {n : Nat} (h : St w B j s n) (hn : n ≤ 100) (i : Nat) (hi : i < j.ops.length) (key : ByteArray) :
    Calls Tryz.prog 25 #[ptrV B.bm, .int .i64 i, .string key] w fun e w' => ∃ v, e = .returned (.tuple #[v, .int .i64 0]) ∧ w'.ownsRow w.heap.size 75 3 v (openP j s.2 i key).length (ctcells (openP j s.2 i key)) ∧ Below w.heap.size w w' := by
  have hwl := winsP_len h i key
  obtain ⟨L, d, hL, hm, _, _⟩ := h.md
  obtain ⟨m, P⟩ := s
  dsimp only at hL hm
  subst hL
  have ok : OkMd ⟨j, m, L, d⟩ := h.ok.to
  have hg : GoodL j (plain L) := h.good
  have hl : L.length ≤ 1024 := by have := h.len; dsimp only at this; rw [plain_len] at this; exact this
  have hol := good_okL (M := ⟨j, m, L, d⟩) hg hl
  have HW := Lib.hid (windows_any B ⟨j, m, L, d⟩ i key w hm hol.nd (hol.dist _ _) (by have := hol.len; omega))
  have hwo := winsP_of ⟨j, m, L, d⟩ i key
  have hmem : ∀ p ∈ winsP (plain L) i key, ∃ x ∈ L, x.p = ⟨i, key, p.1, p.2⟩ ∧ x.vs = val1 (plain L) ⟨i, key, p.1, p.2⟩ := fun p hp => by
    have h1 := hwo ▸ hp
    have h2 := winsOf_mem.1 h1
    obtain ⟨y, hy, he⟩ := List.mem_map.1 h2
    obtain ⟨x, hx, rfl⟩ := List.mem_map.1 hy
    have he : x.p = ⟨i, key, p.1, p.2⟩ := he
    refine ⟨x, hx, he, ?_⟩
    have h3 := val1_at hg.nd hy
    rw [← he]
    exact h3.symm
  have HMEM := Lib.hid hmem
  have HM := Lib.hid hm
  have HTT : Hid (∀ W, Below w.heap.size w W → ∀ x ∈ L, Calls Tryz.prog 75 #[.int .i64 (aggJ j x.p.op), rwV x.r] W fun e w' => e = .returned (.string (FT (aggJ j x.p.op) x.vs)) ∧ Below W.heap.size W w') := Lib.hid (fun W hW x hx => by
    refine tells_FT w B h.tab h.tb W _ x.r x.vs (Kw.ofBelow hW) ((hm.below hW).rows x hx) ?_
    exact okT_good ok.job hg (fun Q hQ => Nat.le_trans (h.thin Q hQ) hn) (y := (x.p, x.vs)) (plain_mem hx))
  have HOP : Hid (openP j (plain L) i key = (winsP (plain L) i key).map fun p => (p, FT (aggJ j i) (val1 (plain L) ⟨i, key, p.1, p.2⟩))) := Lib.hid rfl
  have HOPL : Hid ((openP j (plain L) i key).length = (winsP (plain L) i key).length) := Lib.hid (by unfold openP; rw [List.length_map])
  rw [hwo] at HW
  have m4 := hm.c 4
  have m5 := hm.c 5
  have ml := hm.lt
  simp only [mdcells, List.getElem?_toArray, List.getElem?_cons_zero, List.getElem?_cons_succ] at m4 m5
  unfold ptrV at m5
  have h1 : (0 : Int) ≤ (i : Int) := by omega
  obtain ⟨no, hno⟩ : ∃ no, j.ops.length = no := ⟨_, rfl⟩
  have HNO := Lib.hid hno
  have hi' := hi
  rw [hno] at m4 hi'
  have h2 : (i : Int) < (no : Int) := by omega
  obtain ⟨ws, hws⟩ : ∃ ws, ws = winsP (plain L) i key := ⟨_, rfl⟩
  rw [← hws] at HW hwl HMEM HOP HOPL
  have HI := Lib.hid hi
  unfold ptrV at HW ⊢
  clear h hm hl hol hwo hmem hno hws ok hg hi
  go_enter Tryz.func25, Tryz.ntmps25
  go_wp2_with (fail)
  refine HW.out.mono ?_
  rintro e w2 ⟨v2, rfl, hv2, hb2⟩
  obtain ⟨A2, c2, rfl, hc2, hm2, hr2⟩ := own_read hv2 (by decide)
  have HB2 := Lib.hid hb2
  have HR2 := Lib.hid hr2
  obtain ⟨nw, hnw⟩ : ∃ nw, nw = ws.length := ⟨_, rfl⟩
  rw [← hnw] at hc2 HR2 hwl ⊢
  have HNW := Lib.hid hnw
  unfold maxLen at hm2
  clear hv2 hb2 hr2 hnw
  go_wp2_with (fail)
  go_loopw [8, 37] (fun v q wr => ∃ k : Nat, k ≤ nw ∧ q = .int .i64 k ∧ wr.ownsRow w2.heap.size 75 3 v k (ctcells ((ws.take k).map fun p => (p, FT (aggJ j i) (val1 (plain L) ⟨i, key, p.1, p.2⟩)))) ∧ Below w2.heap.size w2 wr) (fun _ q _ => nw - (intOf q).toNat)
  case atStart => exact ⟨0, Nat.zero_le _, rfl, World.ownsRow_nil _ _ _ _, Below.refl _ _⟩
  case round =>
    obtain ⟨k, hk, rfl, hown, hbl⟩ := hrel
    by_cases hlt : k < nw
    · have hkw : k < ws.length := by have := HNW.out; omega
      obtain ⟨g, rfl, _, hg, _, hx⟩ := HR2.out (by omega)
      have y0 := (hbl.cell (p := ⟨g, k * 2, none⟩) hg).trans (hx (k * 2) (.int .i64 (ws[k]).1) (wcells_at' ws k hkw).1)
      have y1 := (hbl.cell (p := ⟨g, k * 2 + 1, none⟩) hg).trans (hx (k * 2 + 1) (.int .i64 (ws[k]).2) (wcells_at' ws k hkw).2)
      have hgl : g < wr.heap.size := Nat.lt_of_lt_of_le hg hbl.size
      obtain ⟨x, hxL, hxp, hxv⟩ := HMEM.out ws[k] (List.getElem_mem _)
      have hsn : ((ws.take (k + 1)).map fun p => (p, FT (aggJ j i) (val1 (plain L) ⟨i, key, p.1, p.2⟩))) = ((ws.take k).map fun p => (p, FT (aggJ j i) (val1 (plain L) ⟨i, key, p.1, p.2⟩))) ++ [(ws[k], FT (aggJ j i) (val1 (plain L) ⟨i, key, (ws[k]).1, (ws[k]).2⟩))] := by
        rw [List.take_succ_eq_append_getElem hkw, List.map_append]
        rfl
      obtain ⟨tk, htk⟩ : ∃ tk : List Ct, tk = (ws.take k).map fun p => (p, FT (aggJ j i) (val1 (plain L) ⟨i, key, p.1, p.2⟩)) := ⟨_, rfl⟩
      rw [← htk] at hsn hown
      have HSN := Lib.hid hsn
      generalize ws[k] = p at *
      obtain ⟨pf, pt⟩ := p
      dsimp only at y0 y1 hxp hxv
      have hba := bl_alloc (Below.refl wr.heap.size wr) (Obj.cells #[.int .i64 pf, .int .i64 pt] 54)
      have hnw := heap_alloc_new wr (Obj.cells #[.int .i64 pf, .int .i64 pt] 54)
      obtain ⟨WA, hWA⟩ : ∃ WA, WA = wr.alloc (Obj.cells #[.int .i64 pf, .int .i64 pt] 54) := ⟨_, rfl⟩
      have HWA := Lib.hid hWA
      rw [← hWA] at hba hnw
      have HBA : Hid (Below w2.heap.size w2 WA) := Lib.hid (bl_then hbl hba)
      have HOA := Lib.hid (own_below hown hba)
      have HBW : Hid (Below w.heap.size w WA) := Lib.hid (bl_then HB2.out HBA.out)
      obtain ⟨tx, htx⟩ : ∃ tx, tx = FT (aggJ j i) x.vs := ⟨_, rfl⟩
      have hdr : Below WA.heap.size WA WA.drew := (Below.refl _ _).drew
      have HOT : Hid (Calls Tryz.prog 45 #[.pointer (some ⟨B.bm, 0, none⟩), .agg #[.int .i64 i, .string key, .int .i64 pf, .int .i64 pt], .bool false] WA.drew fun e w' => e = .returned (.agg #[.int .i64 i, .string key, .int .i64 pf, .int .i64 pt, .string tx, .bool false]) ∧ Below WA.heap.size WA w') := Lib.hid (by
        have hbx := bl_then HBW.out hdr
        have ho := out_any B ⟨j, m, L, d⟩ x false tx WA.drew (HM.out.below hbx) hxL i (by rw [hxp]) HI.out (fun W hb => by
          have h1 := HTT.out W (bl_then hbx hb) x hxL
          have ha : aggJ j x.p.op = (j.ops.getD i zeroP).agg := by rw [hxp]; rfl
          have hb : aggJ j x.p.op = aggJ j i := by rw [hxp]
          rw [hb, ← htx, ← hb, ha] at h1
          exact h1)
        have hpl : plV x.p = .agg #[.int .i64 i, .string key, .int .i64 pf, .int .i64 pt] := by rw [hxp]; rfl
        have hou : outV x.p tx false = .agg #[.int .i64 i, .string key, .int .i64 pf, .int .i64 pt, .string tx, .bool false] := by rw [hxp]; rfl
        rw [hpl, hou] at ho
        exact ho.mono fun e w' ⟨h1, h2⟩ => ⟨h1, bl_then hdr h2⟩)
      have HO4 : Hid (∀ w3, Below WA.heap.size WA w3 → (w3.alloc (Obj.cells #[.int .i64 pf, .int .i64 pt, .string tx] 75)).ownsRow w2.heap.size 75 3 u8 k (ctcells tk)) := Lib.hid (fun w3 h3 => own_below HOA.out (bl_alloc h3 _))
      have HNR : Hid (∀ w3 : World, (w3.alloc (Obj.cells #[.int .i64 pf, .int .i64 pt, .string tx] 75)).ownsRow 0 75 3 (.slice (some ⟨w3.heap.size, 0, none⟩) 1 1) 1 (ctcells [((pf, pt), tx)])) := Lib.hid (fun w3 => own_one (news := ctcells [((pf, pt), tx)]) (heap_alloc_new w3 _) rfl (Nat.zero_le _))
      have HON := Lib.hid (ctcells_one [((pf, pt), tx)])
      have HB4 : Hid (∀ w3, Below WA.heap.size WA w3 → Below w2.heap.size w2 (w3.alloc (Obj.cells #[.int .i64 pf, .int .i64 pt, .string tx] 75))) := Lib.hid (fun w3 h3 => bl_then HBA.out (bl_alloc h3 _))
      have HG7 : Hid (∀ w3 w7 : World, Below WA.heap.size WA w3 → (w3.alloc (Obj.cells #[.int .i64 pf, .int .i64 pt, .string tx] 75)).grownBy w7 u8.ownBlock → w7.cell? ⟨wr.heap.size, 0, none⟩ = some (.int .i64 pf) ∧ w7.cell? ⟨wr.heap.size, 1, none⟩ = some (.int .i64 pt)) := Lib.hid (fun w3 w7 h3 h7 => by
        have hk := (Kw.refl (fun b => u8.ownBlock = some b) (w3.alloc (Obj.cells #[.int .i64 pf, .int .i64 pt, .string tx] 75))).grown h7 (fun k hk => hk)
        have hl := (Array.getElem?_eq_some_iff.1 hnw).1
        have hne : ¬ u8.ownBlock = some wr.heap.size := fun e => by have := (hown.lt _ e).2; omega
        have hb4 := bl_alloc h3 (Obj.cells #[.int .i64 pf, .int .i64 pt, .string tx] 75)
        have hl4 : wr.heap.size < (w3.alloc (Obj.cells #[.int .i64 pf, .int .i64 pt, .string tx] 75)).heap.size := Nat.lt_of_lt_of_le hl hb4.size
        exact ⟨(hk.cell (i := 0) hl4 hne).trans ((hb4.cell (p := ⟨wr.heap.size, 0, none⟩) hl).trans (cell_of hnw 0)), (hk.cell (i := 1) hl4 hne).trans ((hb4.cell (p := ⟨wr.heap.size, 1, none⟩) hl).trans (cell_of hnw 1))⟩)
      have HTX : Hid (tx = FT (aggJ j i) (val1 (plain L) ⟨i, key, pf, pt⟩)) := Lib.hid (by rw [htx, hxv])
      have x0 : WA.cell? ⟨wr.heap.size, 0, none⟩ = some (.int .i64 pf) := cell_of hnw 0
      have x1 : WA.cell? ⟨wr.heap.size, 1, none⟩ = some (.int .i64 pt) := cell_of hnw 1
      have xl : wr.heap.size < WA.heap.size := (Array.getElem?_eq_some_iff.1 hnw).1
      have hfd : ∀ W : World, (Instr.field 56 (.agg #[.int .i64 i, .string key, .int .i64 pf, .int .i64 pt, .string tx, .bool false]) 3).run Tryz.prog W = .ok (.string tx) W := fun W => by kernel_rfl
      clear hxL hxp hxv htx htk hsn hba hnw hdr hown hbl hx hWA
      go_wp2_with (fail)
      rw [← HWA.out]
      go_region_held3 (fun z => z.cell? ⟨wr.heap.size, 0, none⟩ = some (.int .i64 pf) ∧ z.cell? ⟨wr.heap.size, 1, none⟩ = some (.int .i64 pt))
        (first | exact ⟨x0, x1⟩ | exact ⟨z0, z1⟩ | exact ⟨z2, z3⟩ | exact ⟨z4, z5⟩ | go_keep)
        ((first
          | (go_at_call 45; refine HOT.out.mono ?_; rintro e w3 ⟨rfl, hb3⟩; have z0 := (hb3.cell (p := ⟨wr.heap.size, 0, none⟩) xl).trans x0; have z1 := (hb3.cell (p := ⟨wr.heap.size, 1, none⟩) xl).trans x1; have zl := Nat.lt_of_lt_of_le xl hb3.size; have hb4 := HB4.out w3 hb3; have z2 := ((bl_alloc (Below.refl w3.heap.size w3) (Obj.cells #[.int .i64 pf, .int .i64 pt, .string tx] 75)).cell (p := ⟨wr.heap.size, 0, none⟩) zl).trans z0; have z3 := ((bl_alloc (Below.refl w3.heap.size w3) (Obj.cells #[.int .i64 pf, .int .i64 pt, .string tx] 75)).cell (p := ⟨wr.heap.size, 1, none⟩) zl).trans z1)
          | (refine step_append_row _ rfl _ _ 70 75 3 32 (.agg #[.int .i64 0, .int .i64 0, .string ⟨#[]⟩]) und70 i75 rfl (by decide) (by decide) rfl w2.heap.size 0 k u8 _ rfl (HO4.out w3 hb3) _ 1 _ rfl (HNR.out w3) HON.out (by omega) hb4.size ?_; intro v7 w7 ho7 hg7 hl7; obtain ⟨z4, z5⟩ := HG7.out w3 w7 hb3 hg7)))
      have HB7 := Lib.hid (hb4.grown hg7 hb4.size (fun b hb => ((HO4.out w3 hb3).lt b hb).1))
      have HO7 : Hid (w7.ownsRow w2.heap.size 75 3 v7 (k + 1) (ctcells ((ws.take (k + 1)).map fun p => (p, FT (aggJ j i) (val1 (plain L) ⟨i, key, p.1, p.2⟩))))) := Lib.hid (by
        rw [HSN.out, ctcells_app]
        show w7.ownsRow _ _ _ _ _ (_ ++ ctcells [((pf, pt), FT (aggJ j i) (val1 (plain L) ⟨i, key, pf, pt⟩))])
        rw [← HTX.out]
        exact ho7)
      clear ho7 hg7 hl7 hb3 hb4 z0 z1 z2 z3 z4 z5 zl
      go_wp2_with (fail)
      exact ⟨⟨k + 1, hlt, by push_cast; rfl, HO7.out, HB7.out⟩, by simp only [intOf]; omega⟩
    · have hke : k = nw := by omega
      subst hke
      have HO := Lib.hid hown
      have HBL := Lib.hid (bl_then HB2.out hbl)
      have HSZ := Lib.hid HB2.out.size
      clear hown hbl
      go_wp2_with (fail)
      go_ret2
      refine ⟨_, rfl, ?_, HBL.out⟩
      have h := HO.out
      rw [HNW.out, List.take_length] at h
      rw [HOPL.out, HOP.out]
      exact own_weaken h HSZ.out
end Go.Proofs.YtfojblbnhapedaaGreatDoor
namespace Go.Proofs.YtfojblbnhapedaaGreatDoor
open Go.RowKit Go.Maps
set_option linter.unusedVariables false
set_option linter.unusedSimpArgs false

/-- Tumbling windows begin at multiples of their size. -/
def DivL (j : Jb) (P : PL) : Prop := ∀ y ∈ P, kindOf j y.1.op = 1 → sizeOfW j y.1.op ∣ y.1.f
theorem div_next {j : Jb} {s : QS} (h : DivL j s.2) (e : Ev) : DivL j (goQ j s e).2 := by
  unfold goQ
  split
  · unfold nxtQ
    dsimp only
    intro y hy hk
    have hy := (List.mem_filter.1 hy).1
    unfold recQ at hy
    split at hy
    · have h1 := recF_mem s.1.now e.v (chsP j s.2 e.key e.t s.1.now) s.2 _ (Nat.le_refl _) y (by rw [List.take_length]; exact hy)
      rcases h1 with h1 | ⟨k, hkl, _, he⟩
      · exact h y h1 hk
      · obtain ⟨i, hi, w, hw, hc⟩ := chsP_mem (List.getElem_mem hkl)
        rw [hc] at he
        have hop := (chgP_key j s.2 e.key i w).2
        rw [he, hop] at hk ⊢
        have hk : (j.ops.getD i zeroP).k = 1 := by unfold kindOf at hk; simpa using hk
        unfold chgP
        rw [if_neg (by omega)]
        dsimp only
        unfold opsW winsL at hw
        rw [if_pos hk] at hw
        rw [List.mem_singleton.1 hw]
        unfold flr sizeOfW
        dsimp only
        have : (j.ops.getD (i : Int).toNat zeroP).s = (j.ops.getD i zeroP).s := by simp
        rw [this]
        exact Int.dvd_mul_left _ _
    · exact h y hy hk
  · exact h
theorem winsP_mem {P : PL} {i : Int} {key : ByteArray} {w : Int × Int} (h : w ∈ winsP P i key) : ∃ y ∈ P, y.1 = ⟨i, key, w.1, w.2⟩ := by
  unfold winsP at h
  have h := (sortW_perm _).mem_iff.1 h
  obtain ⟨y, hy, rfl⟩ := List.mem_map.1 h
  obtain ⟨hy, hc⟩ := List.mem_filter.1 hy
  have hc := of_decide_eq_true hc
  refine ⟨y, hy, ?_⟩
  obtain ⟨⟨a, b, c, d⟩, vs⟩ := y
  obtain ⟨rfl, rfl⟩ := hc
  rfl
/-- What holds of a window that is open. -/
theorem stand_one {j : Jb} {s : QS} (hg : GoodL j s.2) (hd : DivL j s.2) {i : Nat} {key : ByteArray} {w : Int × Int} (h : w ∈ winsP s.2 i key) : mayB w = true ∧ ((j.ops.getD i zeroP).k = 1 → w.2 - w.1 = (j.ops.getD i zeroP).s ∧ w.1.tmod (j.ops.getD i zeroP).s = 0) := by
  obtain ⟨y, hy, he⟩ := winsP_mem h
  have hp := hg.pn y hy
  have hm := hp.may
  have hl := hp.len
  have hdv := hd y hy
  rw [he] at hm hl hdv
  unfold kindOf sizeOfW at *
  simp only [Int.toNat_natCast] at hl hdv
  refine ⟨hm, fun hk => ?_⟩
  have h1 := hl (by omega)
  have h2 := hdv hk
  exact ⟨by omega, Int.tmod_eq_zero_of_dvd h2⟩
theorem stand_ap {j : Jb} {s : QS} (hg : GoodL j s.2) {i : Nat} (hk : (j.ops.getD i zeroP).k = 3) (key : ByteArray) : Ap (winsP s.2 i key) := by
  have h := wins_ap (M := ⟨j, s.1, dumL s.2, 0⟩) (by show GoodL j (plain (dumL s.2)); rw [dum_plain]; exact hg) (i := (i : Int)) (by unfold kindOf; simpa using hk) key
  rw [winsP_of] at h
  have e : plain (⟨j, s.1, dumL s.2, 0⟩ : Md).L = s.2 := dum_plain s.2
  rw [e] at h
  exact h
end Go.Proofs.YtfojblbnhapedaaGreatDoor
namespace Go.Proofs.YtfojblbnhapedaaGreatDoor
open Go.RowKit Go.Maps
set_option linter.unusedVariables false
set_option linter.unusedSimpArgs false

theorem jobcells_at {w : World} {b : Nat} {j : Jb} (h : w.heap[b]? = some (Obj.cells (jobcells j) 24)) : w.cell? ⟨b, 0, none⟩ = some (.int .i64 j.groups) ∧ w.cell? ⟨b, 1, none⟩ = some (.int .i64 j.sources) ∧ w.cell? ⟨b, 2, none⟩ = some (.int .i64 j.bound) ∧ w.cell? ⟨b, 3, none⟩ = some (.int .i64 j.late) ∧ w.cell? ⟨b, 4, none⟩ = some (.slice j.A j.ops.length j.c) :=
  ⟨cell_of h 0, cell_of h 1, cell_of h 2, cell_of h 3, cell_of h 4⟩
theorem getKS {w : World} {A : Option Addr} {l : List JOp} (h : RdP w A l) : 0 < l.length → ∃ b off, A = some ⟨b, off, none⟩ ∧ b < w.heap.size ∧ ∀ i, i < l.length → w.cell? ⟨b, off + i * 5 + 2, none⟩ = some (.int .i64 (l.getD i zeroP).k) ∧ w.cell? ⟨b, off + i * 5 + 3, none⟩ = some (.int .i64 (l.getD i zeroP).s) := fun hl => by
  obtain ⟨b, off, h1, h2, h3⟩ := h.1 hl
  exact ⟨b, off, h1, h2, fun i hi => ⟨(h3 i hi).2.2.1, (h3 i hi).2.2.2.1⟩⟩
theorem ctcells_at : ∀ (l : List Ct) (i : Nat) (h : i < l.length), (ctcells l)[i * 3]? = some (.int .i64 (l[i]).1.1) ∧ (ctcells l)[i * 3 + 1]? = some (.int .i64 (l[i]).1.2)
  | [], i, h => absurd h (Nat.not_lt_zero _)
  | o :: l, 0, h => ⟨rfl, rfl⟩
  | o :: l, i + 1, h => by
    have ih := ctcells_at l i (by simpa using h)
    have e : ∀ k, (ctcells (o :: l))[(i + 1) * 3 + k]? = (ctcells l)[i * 3 + k]? := fun k => by
      rw [show (i + 1) * 3 + k = (i * 3 + k) + 3 from by omega]
      rfl
    exact ⟨(e 0).trans ih.1, (e 1).trans ih.2⟩
set_option maxRecDepth 100000 in
set_option maxHeartbeats 4000000 in
theorem stands_early (j : Jb) (l : List Ev) (A : Option Addr) (c : Nat) (w : World) (h : 60 < l.length ∨ 8 < j.ops.length) : Calls Tryz.prog 9 #[jbV j, .slice A l.length c] w fun e w' => e = .returned (.bool true) ∧ Below w.heap.size w w' := by
  have HB := Lib.hid (bl_alloc (Below.refl w.heap.size w) (Obj.cells (jobcells j) 24))
  have HA := Lib.hid (awake_any (w.alloc (Obj.cells (jobcells j) 24)))
  unfold jobcells at HA HB
  obtain ⟨gr, so, bo, la, ops, jA, jc⟩ := j
  unfold jbV
  dsimp only at *
  generalize ops.length = no at *
  generalize l.length = nl at *
  have fin : ∀ (e : Ending) (w' : World), (e = .returned (.bool true) ∧ Below (w.alloc (Obj.cells #[.int .i64 gr, .int .i64 so, .int .i64 bo, .int .i64 la, .slice jA no jc] 24)).heap.size (w.alloc (Obj.cells #[.int .i64 gr, .int .i64 so, .int .i64 bo, .int .i64 la, .slice jA no jc] 24)) w') → e = .returned (.bool true) ∧ Below w.heap.size w w' := fun e w' ⟨h1, h2⟩ => ⟨h1, bl_then HB.out h2⟩
  have HF := Lib.hid fin
  clear fin
  by_cases h1 : 60 < nl
  · clear h
    go_enter Tryz.func9, Tryz.ntmps9
    go_wp2_with (fail)
    refine HA.out.mono ?_
    rintro e w' he
    obtain ⟨rfl, hb⟩ := HF.out e w' he
    have HB2 := Lib.hid hb
    clear he hb
    go_wp2_with (fail)
    go_ret
    exact ⟨rfl, HB2.out⟩
  · have h2 : 8 < no := by rcases h with h | h <;> first | exact absurd h h1 | exact h
    clear h
    go_enter Tryz.func9, Tryz.ntmps9
    go_wp2_with (fail)
    refine HA.out.mono ?_
    rintro e w' he
    obtain ⟨rfl, hb⟩ := HF.out e w' he
    have HB2 := Lib.hid hb
    clear he hb
    go_wp2_with (fail)
    go_ret
    exact ⟨rfl, HB2.out⟩
set_option maxRecDepth 100000 in
set_option maxHeartbeats 4000000 in
theorem stands_nojob (j : Jb) (l : List Ev) (A : Option Addr) (c : Nat) (w : World) (hA : RdP w j.A j.ops) (hc : j.ops.length ≤ j.c) (hcb : j.c ≤ 9223372036854775807) (h1 : l.length ≤ 60) (h2 : j.ops.length ≤ 8) (hj : ¬ jobP j) : Calls Tryz.prog 9 #[jbV j, .slice A l.length c] w fun e w' => e = .returned (.bool true) ∧ Below w.heap.size w w' := by
  have hb := bl_alloc (Below.refl w.heap.size w) (Obj.cells (jobcells j) 24)
  have HN := Lib.hid (new_no j _ (hA.below hb) hc hcb hj)
  have HB := Lib.hid hb
  unfold jobcells at HN HB
  obtain ⟨gr, so, bo, la, ops, jA, jc⟩ := j
  unfold jbV at *
  dsimp only at *
  clear hA hb hj
  go_enter Tryz.func9, Tryz.ntmps9
  go_wp2_with (fail)
  refine HN.out.mono ?_
  rintro e w1 ⟨rfl, hb1⟩
  have HB1 := Lib.hid (bl_then HB.out hb1)
  have HAW := Lib.hid (awake_any w1)
  clear hb1
  go_wp2_with (fail)
  refine HAW.out.mono ?_
  rintro e w2 ⟨rfl, hb2⟩
  have HB2 := Lib.hid (bl_then HB1.out hb2)
  clear hb2
  go_wp2_with (fail)
  go_ret
  exact ⟨rfl, HB2.out⟩
set_option maxRecDepth 100000 in
set_option maxHeartbeats 16000000 in
theorem stands_main (j : Jb) (l : List Ev) (A : Option Addr) (c : Nat) (w : World) (hA : RdP w j.A j.ops) (hc : j.ops.length ≤ j.c) (hcb : j.c ≤ 9223372036854775807) (ht : Tab w) (hE : RdE w A l) (hlc : l.length ≤ c) (hcm : c ≤ 9223372036854775807)
    (h1 : l.length ≤ 60) (h2 : j.ops.length ≤ 8) (hj : jobP j) : Calls Tryz.prog 9 #[jbV j, .slice A l.length c] w fun e w' => e = .returned (.bool true) ∧ Below w.heap.size w w' := by
  have hb := bl_alloc (Below.refl w.heap.size w) (Obj.cells (jobcells j) 24)
  have HB := Lib.hid hb
  have HN := Lib.hid (heap_alloc_new w (Obj.cells (jobcells j) 24))
  have HE := Lib.hid (hE.below hb)
  have HA : Hid (RdP (w.alloc (Obj.cells (jobcells j) 24)) j.A j.ops) := Lib.hid (hA.below hb)
  obtain ⟨W0, hW0⟩ : ∃ W0, W0 = w.alloc (Obj.cells (jobcells j) 24) := ⟨_, rfl⟩
  have HW0 := Lib.hid hW0
  have HNEW : Hid (Calls Tryz.prog 14 #[jbV j] W0 fun e w' => ∃ B A' c', e = .returned (.tuple #[ptrV B.bm, .int .i64 0]) ∧ Below W0.heap.size W0 w' ∧ (∀ b, S3 B b → W0.heap.size ≤ b) ∧ (∀ a, A' = some a → W0.heap.size ≤ a.block) ∧ St w' B { j with A := A', c := c' } (startQ j) 0) := Lib.hid (by
    rw [hW0]
    exact new_st j _ (hA.below hb) hc hcb hj (ht.below hb))
  rw [← hW0] at HB HN HE HA
  obtain ⟨x0, x1, x2, x3, x4⟩ := jobcells_at HN.out
  have hjlt : w.heap.size < W0.heap.size := (Array.getElem?_eq_some_iff.1 HN.out).1
  obtain ⟨gr, so, bo, la, ops, jA, jc⟩ := j
  unfold jbV at *
  dsimp only at *
  have HWE : Hid (w.alloc (Obj.cells #[.int .i64 gr, .int .i64 so, .int .i64 bo, .int .i64 la, .slice jA ops.length jc] 24) = W0) := Lib.hid (by rw [HW0.out]; rfl)
  clear hA ht hE hb hW0 hj
  go_enter Tryz.func9, Tryz.ntmps9
  go_wp2_with (fail)
  rw [HWE.out]
  refine HNEW.out.mono ?_
  rintro e w1 ⟨B, A', c', rfl, hb1, hs3, _, hst⟩
  obtain ⟨j', hj'⟩ : ∃ j' : Jb, j' = ⟨gr, so, bo, la, ops, A', c'⟩ := ⟨_, rfl⟩
  have HJ' := Lib.hid hj'
  have HST : Hid (St w1 B j' (startQ j') 0) := Lib.hid (by rw [hj']; exact hst)
  have HB1 := Lib.hid hb1
  have HS3 := Lib.hid hs3
  clear hst hj' hb1 hs3
  unfold ptrV
  go_wp2_with (fail)
  go_loopw [7] (fun i wr => ∃ (k : Nat) (s : QS), k ≤ l.length ∧ i = .int .i64 k ∧ DivL j' s.2 ∧ St wr B j' s k ∧ Below W0.heap.size W0 wr) (fun i _ => l.length - (intOf i).toNat)
  case atStart => exact ⟨0, _, Nat.zero_le _, rfl, (fun y h => by cases h), HST.out, HB1.out⟩
  case round =>
    obtain ⟨k, s, hk, rfl, hdv, hst, hbl⟩ := hrel
    by_cases hlt : k < l.length
    · obtain ⟨b, off, rfl, hbw, hcell⟩ := (HE.out.below hbl).at_ (by omega)
      obtain ⟨d0, d1, d2, d3, d4⟩ := hcell k hlt
      have hem := HE.out.2 l[k] (List.getElem_mem _)
      have HD := Lib.hid (do_q tells_FT hst (by omega) l[k] hem.1 hem.2)
      have HDV := Lib.hid (div_next hdv l[k])
      have HBL := Lib.hid hbl
      have hbsz := hbl.size
      have hb3 := (HE.out.at_ (by omega))
      obtain ⟨b_, off_, hbe, hbw0, hcell0⟩ := hb3
      have hbe := Option.some.inj hbe
      injection hbe with hbe1 hbe2
      subst hbe1 hbe2
      have dk := (hcell0 k hlt).2.2.2.1
      generalize l[k] = ev at *
      obtain ⟨ek, esrc, et, ekey, evv⟩ := ev
      unfold evV ptrV at HD
      dsimp only at d0 d1 d2 d3 d4 HD dk
      clear hem hcell hcell0 hbl hst hdv
      go_wp2_with (fail)
      refine HD.out.mono ?_
      rintro e w2 ⟨v2, rfl, ho2, hst2, hk2⟩
      have HB2 : Hid (Below W0.heap.size W0 w2) := Lib.hid (HBL.out.trans (hk2.below HBL.out.size (fun b hb => HS3.out b hb)))
      obtain ⟨s2, hs2⟩ : ∃ s2, s2 = goQ j' s ⟨ek, esrc, et, ekey, evv⟩ := ⟨_, rfl⟩
      rw [← hs2] at hst2 HDV
      have HST2 := Lib.hid hst2
      clear ho2 hk2 hs2 hst2 HD d0 d1 d2 d3 d4
      generalize codeQ j' s ⟨ek, esrc, et, ekey, evv⟩ = cd at *
      obtain ⟨WO, hWO⟩ : ∃ WO, WO = wr := ⟨_, rfl⟩
      subst hWO
      go_wp2_with (fail)
      go_loopw [8] (fun i wr => ∃ q : Nat, q ≤ ops.length ∧ i = .int .i64 q ∧ Below w2.heap.size w2 wr) (fun i _ => ops.length - (intOf i).toNat)
      case atStart => exact ⟨0, Nat.zero_le _, rfl, Below.refl _ _⟩
      case round =>
        obtain ⟨q, hq, rfl, hbl⟩ := hrel
        have HBQ := Lib.hid hbl
        have HB0 : Hid (Below W0.heap.size W0 wr) := Lib.hid (bl_then HB2.out hbl)
        have hw0r : W0.heap.size ≤ wr.heap.size := HB0.out.size
        have j4 := (HB0.out.cell (p := ⟨w.heap.size, 4, none⟩) hjlt).trans x4
        have hjr : w.heap.size < wr.heap.size := Nat.lt_of_lt_of_le hjlt hw0r
        by_cases hqlt : q < ops.length
        · have dkr := (HB0.out.cell (p := ⟨b, off + k * 5 + 3, none⟩) hbw0).trans dk
          have hbr : b < wr.heap.size := Nat.lt_of_lt_of_le hbw0 hw0r
          have HOPN := Lib.hid (open_st (HST2.out.below hbl) (by omega) q (by rw [HJ'.out]; exact hqlt) ekey)
          have HONE : Hid (∀ p ∈ winsP s2.2 q ekey, mayB p = true ∧ ((ops.getD q zeroP).k = 1 → p.2 - p.1 = (ops.getD q zeroP).s ∧ p.1.tmod (ops.getD q zeroP).s = 0)) := Lib.hid (fun p hp => by
            have h := stand_one HST2.out.good HDV.out hp
            rw [HJ'.out] at h
            exact h)
          have HAP : Hid ((ops.getD q zeroP).k = 3 → Ap (winsP s2.2 q ekey)) := Lib.hid (fun hk => stand_ap HST2.out.good (by rw [HJ'.out]; exact hk) ekey)
          have HWL := Lib.hid (winsP_len HST2.out q ekey)
          obtain ⟨ct, hct⟩ : ∃ ct, ct = openP j' s2.2 q ekey := ⟨_, rfl⟩
          obtain ⟨ws, hws⟩ : ∃ ws, ws = winsP s2.2 q ekey := ⟨_, rfl⟩
          have HCW : Hid (ct.map (·.1) = ws) := Lib.hid (by rw [hct, hws]; unfold openP; rw [List.map_map]; exact List.map_id _)
          rw [← hct] at HOPN
          rw [← hws] at HONE HAP HWL
          unfold ptrV at HOPN
          clear hbl hct hws
          go_wp2_with (fail)
          refine HOPN.out.mono ?_
          rintro e w3 ⟨v3, rfl, ho3, hb3⟩
          obtain ⟨A3, c3, rfl, hc3, hm3, hr3⟩ := own_read ho3 (by decide)
          have HR3 := Lib.hid hr3
          have HB3 := Lib.hid hb3
          obtain ⟨nc, hnc⟩ : ∃ nc, nc = ct.length := ⟨_, rfl⟩
          rw [← hnc] at hc3 HR3 ⊢
          have HNC := Lib.hid hnc
          have hncl : nc ≤ 1024 := by
            have h1 := HWL.out
            rw [← HCW.out, List.length_map] at h1
            omega
          unfold maxLen at hm3
          have hw03 : W0.heap.size ≤ w3.heap.size := Nat.le_trans hw0r hb3.size
          have j43 := (hb3.cell (p := ⟨w.heap.size, 4, none⟩) hjr).trans j4
          have hj3 : w.heap.size < w3.heap.size := Nat.lt_of_lt_of_le hjr hb3.size
          have HB03 : Hid (Below W0.heap.size W0 w3) := Lib.hid (bl_then HB0.out hb3)
          obtain ⟨bo_, oo_, hjA, hbo, hco⟩ := getKS (HA.out.below HB03.out) (by omega)
          subst hjA
          obtain ⟨k0, k1⟩ := hco q hqlt
          obtain ⟨kk, hkk⟩ : ∃ kk, (ops.getD q zeroP).k = kk := ⟨_, rfl⟩
          obtain ⟨ks, hks⟩ : ∃ ks, (ops.getD q zeroP).s = ks := ⟨_, rfl⟩
          have HKS : Hid (kk = 1 → 1 ≤ ks) := Lib.hid (fun h => by
            have hq := opsP_at HST2.out.ok.job.2 q (by rw [HJ'.out]; exact hqlt)
            have hq := hq.2.2.2
            rw [HJ'.out] at hq
            have hq : chkV (ops.getD q zeroP).k (ops.getD q zeroP).s (ops.getD q zeroP).l = 0 := hq
            rw [hkk, hks, h] at hq
            unfold chkV at hq
            rw [if_pos (.inl rfl)] at hq
            have hS : plainB ks (ops.getD q zeroP).l = true := by
              cases hc : plainB ks (ops.getD q zeroP).l
              · rw [hc] at hq; simp at hq
              · rfl
            exact (plainB_bd hS).1)
          rw [hkk] at k0 HONE HAP
          rw [hks] at k1 HONE
          clear ho3 hb3 hr3 hnc hco hkk hks
          obtain ⟨WQ, hWQ⟩ : ∃ WQ, WQ = wr := ⟨_, rfl⟩
          subst hWQ
          go_wp2_with (fail)
          go_loopw [11, 12] (fun v i wr => ∃ n : Nat, n ≤ nc ∧ i = .int .i64 n ∧ wr.ownsRow w3.heap.size 54 2 v n (wcells (ws.take n)) ∧ Below w3.heap.size w3 wr) (fun _ i _ => nc - (intOf i).toNat)
          case atStart => exact ⟨0, Nat.zero_le _, rfl, World.ownsRow_nil _ _ _ _, Below.refl _ _⟩
          case round =>
            obtain ⟨n, hn, rfl, hown, hby⟩ := hrel
            by_cases hnlt : n < nc
            · have hnct : n < ct.length := by have := HNC.out; omega
              have hnws : n < ws.length := by have h := HCW.out; rw [← h, List.length_map]; exact hnct
              obtain ⟨g, rfl, _, hg, _, hx⟩ := HR3.out (by omega)
              have hcn : (ct[n]).1 = ws[n] := by
                have h := HCW.out
                subst h
                rw [List.getElem_map]
              have y0 := (hby.cell (p := ⟨g, n * 3, none⟩) hg).trans (hx _ _ (ctcells_at ct n hnct).1)
              have y1 := (hby.cell (p := ⟨g, n * 3 + 1, none⟩) hg).trans (hx _ _ (ctcells_at ct n hnct).2)
              rw [hcn] at y0 y1
              have hgl : g < wr.heap.size := Nat.lt_of_lt_of_le hg hby.size
              have hone := HONE.out ws[n] (List.getElem_mem _)
              have hsn : ws.take (n + 1) = ws.take n ++ [ws[n]] := List.take_succ_eq_append_getElem hnws
              obtain ⟨tk, htk⟩ : ∃ tk, tk = ws.take n := ⟨_, rfl⟩
              rw [← htk] at hsn hown
              generalize ws[n] = p at *
              obtain ⟨pf, pt⟩ := p
              have hmay := may_bd.1 hone.1
              have hk1 := hone.2
              dsimp only at y0 y1 hmay hk1
              have hba := bl_alloc (Below.refl wr.heap.size wr) (Obj.cells #[.int .i64 pf, .int .i64 pt] 54)
              have hnw := heap_alloc_new wr (Obj.cells #[.int .i64 pf, .int .i64 pt] 54)
              have hsz0 : (wr.alloc (Obj.cells #[.int .i64 pf, .int .i64 pt] 54)).heap.size = wr.heap.size + 1 := by simp
              have hnw2 := heap_alloc_new (wr.alloc (Obj.cells #[.int .i64 pf, .int .i64 pt] 54)) (Obj.cells #[.int .i64 pf, .int .i64 pt] 54)
              rw [hsz0] at hnw2
              have hba2 := bl_alloc hba (Obj.cells #[.int .i64 pf, .int .i64 pt] 54)
              have HO4 := Lib.hid (own_below hown hba2)
              have HNR : Hid (((wr.alloc (Obj.cells #[.int .i64 pf, .int .i64 pt] 54)).alloc (Obj.cells #[.int .i64 pf, .int .i64 pt] 54)).ownsRow 0 54 2 (.slice (some ⟨wr.heap.size + 1, 0, none⟩) 1 1) 1 (wcells [(pf, pt)])) := Lib.hid (own_one (news := wcells [(pf, pt)]) hnw2 rfl (Nat.zero_le _))
              have HON : Hid (∀ u ∈ wcells [(pf, pt)], u.oneCell' = true) := Lib.hid (fun u hu => by
                have hu : u ∈ [Value.int .i64 pf, .int .i64 pt] := hu
                simp only [List.mem_cons, List.not_mem_nil, or_false] at hu
                rcases hu with rfl | rfl <;> rfl)
              have HB4 : Hid (Below w3.heap.size w3 ((wr.alloc (Obj.cells #[.int .i64 pf, .int .i64 pt] 54)).alloc (Obj.cells #[.int .i64 pf, .int .i64 pt] 54))) := Lib.hid (bl_then hby hba2)
              have hbz : w3.heap.size ≤ ((wr.alloc (Obj.cells #[.int .i64 pf, .int .i64 pt] 54)).alloc (Obj.cells #[.int .i64 pf, .int .i64 pt] 54)).heap.size := HB4.out.size
              have HX2 := Lib.hid (((bl_alloc (Below.refl (wr.alloc (Obj.cells #[.int .i64 pf, .int .i64 pt] 54)).heap.size (wr.alloc (Obj.cells #[.int .i64 pf, .int .i64 pt] 54))) (Obj.cells #[.int .i64 pf, .int .i64 pt] 54)).block wr.heap.size (by rw [hsz0]; omega)).trans hnw)
              have HU : Hid (¬ u11.ownBlock = some wr.heap.size) := Lib.hid (fun e => by have := (hown.lt _ e).2; omega)
              have HSN := Lib.hid hsn
              clear hown hby hx hone hcn hsn htk hnw hnw2 hba hba2 hsz0
              go_wp2_with (at_builtin; refine wpList_append_row _ rfl _ _ 73 54 2 16 (.agg #[.int .i64 0, .int .i64 0]) und73 i54 rfl (by decide) (by decide) rfl w3.heap.size 0 n u11 _ rfl HO4.out _ 1 _ rfl HNR.out HON.out (by omega) hbz ?_)
              intro v7 w7 ho7 hg7 hl7
              have hk7 := (Kw.refl (fun b => u11.ownBlock = some b) ((wr.alloc (Obj.cells #[.int .i64 pf, .int .i64 pt] 54)).alloc (Obj.cells #[.int .i64 pf, .int .i64 pt] 54))).grown hg7 (fun k hk => hk)
              have hx2 := HX2.out
              have hl2 := (Array.getElem?_eq_some_iff.1 hx2).1
              have z0 := (hk7.cell (i := 0) hl2 HU.out).trans (cell_of hx2 0)
              have z1 := (hk7.cell (i := 1) hl2 HU.out).trans (cell_of hx2 1)
              have HB7 : Hid (Below w3.heap.size w3 w7) := Lib.hid (HB4.out.grown hg7 HB4.out.size (fun b hb => (HO4.out.lt b hb).1))
              have HO7 : Hid (w7.ownsRow w3.heap.size 54 2 v7 (n + 1) (wcells (ws.take (n + 1)))) := Lib.hid (by rw [HSN.out, wcells_app]; exact ho7)
              have j7 := (HB7.out.cell (p := ⟨w.heap.size, 4, none⟩) hj3).trans j43
              have k07 := (HB7.out.cell (p := ⟨bo_, oo_ + q * 5 + 2, none⟩) hbo).trans k0
              have k17 := (HB7.out.cell (p := ⟨bo_, oo_ + q * 5 + 3, none⟩) hbo).trans k1
              have yz0 : ∀ x : Ext w7, x.val.cell? ⟨wr.heap.size, 0, none⟩ = some (.int .i64 pf) := ext_cell z0
              have yz1 : ∀ x : Ext w7, x.val.cell? ⟨wr.heap.size, 1, none⟩ = some (.int .i64 pt) := ext_cell z1
              have yj7 := ext_cell j7
              have yk0 := ext_cell k07
              have yk1 := ext_cell k17
              clear ho7 hg7 hl7 hk7 hx2 hl2 z0 z1 j7 k07 k17
              have e1 : IntKind.i64.wrap (pt - pf) = pt - pf := by rw [IntKind.wrap_i64]; omega
              by_cases hk3 : kk = 1
              · obtain ⟨m1, m2⟩ := hk1 hk3
                have hks := HKS.out hk3
                subst hk3
                rw [m1] at e1
                have m3 : IntKind.i64.wrap (pf.tmod ks) = 0 := by rw [m2]; rfl
                have q1 : (ks == (0 : Int)) = false := by simp; omega
                go_wp2_with (fail)
                refine wp_region_ext (by kernel_rfl) (by kernel_rfl) ?_
                repeat (go_big_quiet_step (fail))
                refine wpQuiet_nil ?_
                rintro w8 ⟨⟨wz, hbz⟩, rfl⟩
                have HBZ := Lib.hid (bl_then HB7.out hbz)
                have HOZ := Lib.hid (own_below HO7.out hbz)
                clear hbz
                go_wp2_with (fail)
                exact ⟨⟨n + 1, hnlt, by push_cast; rfl, HOZ.out, HBZ.out⟩, by simp only [intOf]; omega⟩
              · have q1 : (kk == (1 : Int)) = false := by simpa using hk3
                clear hk1
                go_wp2_with (fail)
                refine wp_region_ext (by kernel_rfl) (by kernel_rfl) ?_
                repeat (go_big_quiet_step (fail))
                refine wpQuiet_nil ?_
                rintro w8 ⟨⟨wz, hbz⟩, rfl⟩
                have HBZ := Lib.hid (bl_then HB7.out hbz)
                have HOZ := Lib.hid (own_below HO7.out hbz)
                clear hbz
                go_wp2_with (fail)
                exact ⟨⟨n + 1, hnlt, by push_cast; rfl, HOZ.out, HBZ.out⟩, by simp only [intOf]; omega⟩
            · have hne : n = nc := by omega
              subst hne
              have hwl : ws.length = n := by have h := HCW.out; rw [← h, List.length_map]; exact HNC.out.symm
              rw [← hwl, List.take_length] at hown
              obtain ⟨A5, c5, rfl, hc5, hrw⟩ := own_rdW hown
              have HBY := Lib.hid hby
              have j5 := (hby.cell (p := ⟨w.heap.size, 4, none⟩) hj3).trans j43
              have k05 := (hby.cell (p := ⟨bo_, oo_ + q * 5 + 2, none⟩) hbo).trans k0
              have hbo5 : bo_ < wr.heap.size := Nat.lt_of_lt_of_le hbo hby.size
              have hj5 : w.heap.size < wr.heap.size := Nat.lt_of_lt_of_le hj3 hby.size
              have HB5 : Hid (Below w2.heap.size w2 wr) := Lib.hid (bl_then HBQ.out (bl_then HB3.out hby))
              by_cases hk3 : kk = 3
              · have HC := Lib.hid (apart_any A5 c5 ws wr hrw hc5 true ((ap_iff ws).2 (HAP.out hk3)))
                rw [hwl] at HC
                rw [hwl]
                subst hk3
                clear hown hby hrw
                go_wp2_with (fail)
                refine HC.out.mono ?_
                rintro e w8 ⟨rfl, hb8⟩
                have HB8 := Lib.hid (bl_then HB5.out hb8)
                clear hb8
                go_wp2_with (fail)
                exact ⟨⟨q + 1, hqlt, by push_cast; rfl, HB8.out⟩, by simp only [intOf]; omega⟩
              · have hq3 : (kk == (3 : Int)) = false := by simpa using hk3
                rw [hwl]
                clear hown hby hrw
                go_wp2_with (fail)
                exact ⟨⟨q + 1, hqlt, by push_cast; rfl, HB5.out⟩, by simp only [intOf]; omega⟩
        · have hqe : q = ops.length := by omega
          subst hqe
          have HSX := Lib.hid (HST2.out.below hbl)
          clear hbl
          go_wp2_with (fail)
          exact ⟨⟨k + 1, s2, hlt, by push_cast; rfl, HDV.out, HSX.out, HB0.out⟩, by simp only [intOf]; omega⟩
    · have HAW := Lib.hid (awake_any wr)
      have HBL := Lib.hid hbl
      clear hbl hst
      go_wp2_with (fail)
      refine HAW.out.mono ?_
      rintro e w7 ⟨rfl, hb7⟩
      have HB7 := Lib.hid (bl_then HB.out (bl_then HBL.out hb7))
      clear hb7
      go_wp2_with (fail)
      go_ret
      exact ⟨rfl, HB7.out⟩
/-- ModelStands, walked. -/
theorem mstands_law (j : Jb) (l : List Ev) (A : Option Addr) (c : Nat) (w : World) (hA : RdP w j.A j.ops) (hc : j.ops.length ≤ j.c) (hcb : j.c ≤ 9223372036854775807) (ht : Tab w) (hE : RdE w A l) (hlc : l.length ≤ c) (hcm : c ≤ 9223372036854775807) : Calls Tryz.prog 9 #[jbV j, .slice A l.length c] w fun e w' => e = .returned (.bool true) ∧ Below w.heap.size w w' := by
  by_cases h : 60 < l.length ∨ 8 < j.ops.length
  · exact stands_early j l A c w h
  · have h1 : ¬ 60 < l.length := fun hh => h (.inl hh)
    have h2 : ¬ 8 < j.ops.length := fun hh => h (.inr hh)
    by_cases hj : jobP j
    · exact stands_main j l A c w hA hc hcb ht hE hlc hcm (by omega) (by omega) hj
    · exact stands_nojob j l A c w hA hc hcb (by omega) (by omega) hj
end Go.Proofs.YtfojblbnhapedaaGreatDoor
