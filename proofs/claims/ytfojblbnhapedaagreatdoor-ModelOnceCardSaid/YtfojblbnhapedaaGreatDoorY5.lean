/- The walk of ModelOnce, where there is a model. Conditions: as each theorem states them. -/
import Derived.Test.YtfojblbnhapedaaGreatDoorY2
import Derived.Test.YtfojblbnhapedaaGreatDoorZ6
namespace Go.Proofs.YtfojblbnhapedaaGreatDoor
open Go.RowKit Go.Maps
set_option linter.unusedVariables false
set_option linter.unusedSimpArgs false

theorem now_st {w : World} {B : Lo} {j : Jb} {s : QS} {n : Nat} (h : St w B j s n) : Calls Tryz.prog 23 #[ptrV B.bm] w fun e w' => e = .returned (.int .i64 s.1.now) ∧ w = w' := by
  obtain ⟨L, d, hL, hm, _⟩ := h.md
  exact now_md B ⟨j, s.1, L, d⟩ w hm h.ok.mks
set_option maxRecDepth 100000 in
set_option maxHeartbeats 4000000 in
theorem once_early (j : Jb) (l : List Ev) (A : Option Addr) (c : Nat) (w : World) (h : 60 < l.length ∨ 8 < j.ops.length) : Calls Tryz.prog 8 #[jbV j, .slice A l.length c] w fun e w' => e = .returned (.bool true) ∧ Below w.heap.size w w' := by
  have HB := Lib.hid (bl_alloc (Below.refl w.heap.size w) (Obj.cells (jobcells j) 24))
  have HA := Lib.hid (awake_any (w.alloc (Obj.cells (jobcells j) 24)))
  unfold jobcells at HA HB
  obtain ⟨gr, so, bo, la, ops, jA, jc⟩ := j
  unfold jbV
  dsimp only at *
  generalize ops.length = no at *
  generalize l.length = nl at *
  have fin : ∀ (e : Ending) (w' : World), (e = .returned (.bool true) ∧ Below (w.alloc (Obj.cells #[.int .i64 gr, .int .i64 so, .int .i64 bo, .int .i64 la, .slice jA no jc] 24)).heap.size (w.alloc (Obj.cells #[.int .i64 gr, .int .i64 so, .int .i64 bo, .int .i64 la, .slice jA no jc] 24)) w') → e = .returned (.bool true) ∧ Below w.heap.size w w' := fun e w' ⟨h1, h2⟩ => ⟨h1, bl_then HB.out h2⟩
  have HF := Lib.hid fin
  clear fin
  by_cases h1 : 60 < nl
  · clear h
    go_enter Tryz.func8, Tryz.ntmps8
    go_wp2_with (fail)
    refine HA.out.mono ?_
    rintro e w' he
    obtain ⟨rfl, hb⟩ := HF.out e w' he
    have HB2 := Lib.hid hb
    clear he hb
    go_wp2_with (fail)
    go_ret
    exact ⟨rfl, HB2.out⟩
  · have h2 : 8 < no := by rcases h with h | h <;> first | exact absurd h h1 | exact h
    clear h
    go_enter Tryz.func8, Tryz.ntmps8
    go_wp2_with (fail)
    refine HA.out.mono ?_
    rintro e w' he
    obtain ⟨rfl, hb⟩ := HF.out e w' he
    have HB2 := Lib.hid hb
    clear he hb
    go_wp2_with (fail)
    go_ret
    exact ⟨rfl, HB2.out⟩
set_option maxRecDepth 100000 in
set_option maxHeartbeats 4000000 in
theorem once_nojob (j : Jb) (l : List Ev) (A : Option Addr) (c : Nat) (w : World) (hA : RdP w j.A j.ops) (hc : j.ops.length ≤ j.c) (hcb : j.c ≤ 9223372036854775807) (h1 : l.length ≤ 60) (h2 : j.ops.length ≤ 8) (hj : ¬ jobP j) : Calls Tryz.prog 8 #[jbV j, .slice A l.length c] w fun e w' => e = .returned (.bool true) ∧ Below w.heap.size w w' := by
  have hb := bl_alloc (Below.refl w.heap.size w) (Obj.cells (jobcells j) 24)
  have HN := Lib.hid (new_no j _ (hA.below hb) hc hcb hj)
  have HB := Lib.hid hb
  unfold jobcells at HN HB
  obtain ⟨gr, so, bo, la, ops, jA, jc⟩ := j
  unfold jbV at *
  dsimp only at *
  clear hA hb hj
  go_enter Tryz.func8, Tryz.ntmps8
  go_wp2_with (fail)
  refine HN.out.mono ?_
  rintro e w1 ⟨rfl, hb1⟩
  have HB1 := Lib.hid (bl_then HB.out hb1)
  have HAW := Lib.hid (awake_any w1)
  clear hb1
  go_wp2_with (fail)
  refine HAW.out.mono ?_
  rintro e w2 ⟨rfl, hb2⟩
  have HB2 := Lib.hid (bl_then HB1.out hb2)
  clear hb2
  go_wp2_with (fail)
  go_ret
  exact ⟨rfl, HB2.out⟩
end Go.Proofs.YtfojblbnhapedaaGreatDoor
namespace Go.Proofs.YtfojblbnhapedaaGreatDoor
open Go.RowKit Go.Maps
set_option linter.unusedVariables false
set_option linter.unusedSimpArgs false

theorem RdO.kw {w w' : World} {A : Option Addr} {l : List Ou} (h : RdO w A l) {S : Nat → Prop} (k : Kw S w w') (hs : ∀ g, A = some ⟨g, 0, none⟩ → ¬ S g) : RdO w' A l := by
  intro hl
  obtain ⟨g, rfl, hg, hc⟩ := h hl
  have hne := hs g rfl
  refine ⟨g, rfl, Nat.lt_of_lt_of_le hg k.size, fun i hi => ?_⟩
  obtain ⟨h0, h1, h2, h3, h4, h5⟩ := hc i hi
  exact ⟨(k.cell hg hne).trans h0, (k.cell hg hne).trans h1, (k.cell hg hne).trans h2, (k.cell hg hne).trans h3, (k.cell hg hne).trans h4, (k.cell hg hne).trans h5⟩
theorem RdO.grown {w w' : World} {A : Option Addr} {l : List Ou} (h : RdO w A l) {row : Option Nat} (g : w.grownBy w' row) (hs : ∀ b, row = some b → A ≠ some ⟨b, 0, none⟩) : RdO w' A l :=
  h.kw ((Kw.refl (fun b => row = some b) w).grown g (fun k hk => hk)) (fun b hA hb => hs b hb hA)
theorem getK {w : World} {A : Option Addr} {l : List JOp} (h : RdP w A l) : 0 < l.length → ∃ b off, A = some ⟨b, off, none⟩ ∧ b < w.heap.size ∧ ∀ i, i < l.length → w.cell? ⟨b, off + i * 5 + 2, none⟩ = some (.int .i64 (l.getD i zeroP).k) := fun hl => by
  obtain ⟨b, off, h1, h2, h3⟩ := h.1 hl
  exact ⟨b, off, h1, h2, fun i hi => (h3 i hi).2.2.1⟩
theorem eql_win (W : World) (a c b d : Int) : (binOp .eql 54 (.agg #[.int .i64 a, .int .i64 b]) (.agg #[.int .i64 c, .int .i64 d])).run Tryz.prog W = .ok (.bool (decide ((a, b) = (c, d)))) W := by
  rw [run_eql_struct (P := Tryz.prog), show (10000 : Nat) = 9998 + 1 + 1 from rfl, eq_win 9998 W a c b d]
  simp only [Result.andThen_ok]
set_option maxRecDepth 100000 in
set_option maxHeartbeats 16000000 in
theorem once_main (j : Jb) (l : List Ev) (A : Option Addr) (c : Nat) (w : World) (hA : RdP w j.A j.ops) (hc : j.ops.length ≤ j.c) (hcb : j.c ≤ 9223372036854775807) (ht : Tab w) (hE : RdE w A l) (hlc : l.length ≤ c) (hcm : c ≤ 9223372036854775807)
    (h1 : l.length ≤ 60) (h2 : j.ops.length ≤ 8) (hj : jobP j) : Calls Tryz.prog 8 #[jbV j, .slice A l.length c] w fun e w' => e = .returned (.bool true) ∧ Below w.heap.size w w' := by
  have hb := bl_alloc (Below.refl w.heap.size w) (Obj.cells (jobcells j) 24)
  have HB := Lib.hid hb
  have HN := Lib.hid (heap_alloc_new w (Obj.cells (jobcells j) 24))
  have HE := Lib.hid (hE.below hb)
  have HA : Hid (RdP (w.alloc (Obj.cells (jobcells j) 24)) j.A j.ops) := Lib.hid (hA.below hb)
  obtain ⟨W0, hW0⟩ : ∃ W0, W0 = w.alloc (Obj.cells (jobcells j) 24) := ⟨_, rfl⟩
  have HW0 := Lib.hid hW0
  have HNEW : Hid (Calls Tryz.prog 14 #[jbV j] W0 fun e w' => ∃ B A' c', e = .returned (.tuple #[ptrV B.bm, .int .i64 0]) ∧ Below W0.heap.size W0 w' ∧ (∀ b, S3 B b → W0.heap.size ≤ b) ∧ (∀ a, A' = some a → W0.heap.size ≤ a.block) ∧ St w' B { j with A := A', c := c' } (startQ j) 0) := Lib.hid (by
    rw [hW0]
    exact new_st j _ (hA.below hb) hc hcb hj (ht.below hb))
  rw [← hW0] at HB HN HE HA
  have HJ := Lib.hid hj
  obtain ⟨x0, x1, x2, x3, x4⟩ := jobcells_job HN.out
  have hjlt : w.heap.size < W0.heap.size := (Array.getElem?_eq_some_iff.1 HN.out).1
  have hla := hj.1.2.2.2.2.2.2
  obtain ⟨gr, so, bo, la, ops, jA, jc⟩ := j
  unfold jbV at *
  dsimp only at *
  have HWE : Hid (w.alloc (Obj.cells #[.int .i64 gr, .int .i64 so, .int .i64 bo, .int .i64 la, .slice jA ops.length jc] 24) = W0) := Lib.hid (by rw [HW0.out]; rfl)
  clear hA ht hE hb hW0 hj
  go_enter Tryz.func8, Tryz.ntmps8
  go_wp2_with (fail)
  rw [HWE.out]
  refine HNEW.out.mono ?_
  rintro e w1 ⟨B, A', c', rfl, hb1, hs3, _, hst⟩
  obtain ⟨j', hj'⟩ : ∃ j' : Jb, j' = ⟨gr, so, bo, la, ops, A', c'⟩ := ⟨_, rfl⟩
  have HJ' := Lib.hid hj'
  have HST : Hid (St w1 B j' (startQ j') 0) := Lib.hid (by rw [hj']; exact hst)
  have HB1 := Lib.hid hb1
  have HS3 := Lib.hid hs3
  have HOPA : Hid (∀ a, j'.A = some a → a.block < w1.heap.size) := Lib.hid HST.out.opa
  have HTB : Hid (tabG < w1.heap.size) := Lib.hid HST.out.tab.lt
  have HJP : Hid (jobP j') := Lib.hid HST.out.ok.job
  have hw01 : W0.heap.size ≤ w1.heap.size := hb1.size
  clear hst hj' hb1 hs3
  unfold ptrV
  go_wp2_with (fail)
  go_loopw [7, 8] (fun v i wr => ∃ (k : Nat) (s : QS) (T : List Ot), k ≤ l.length ∧ i = .int .i64 k ∧ OldT s T ∧ T.length ≤ 3000 * k ∧ wr.ownsRow w1.heap.size 56 6 v T.length (otcells FT j' T) ∧ St wr B j' s k ∧ Below W0.heap.size W0 wr ∧ w1.heap.size ≤ wr.heap.size) (fun _ i _ => l.length - (intOf i).toNat)
  case atStart => exact ⟨0, _, [], Nat.zero_le _, rfl, (fun x h => by cases h), Nat.zero_le _, World.ownsRow_nil _ _ _ _, HST.out, HB1.out, Nat.le_refl _⟩
  case round =>
    obtain ⟨k, s, T, hk, rfl, hold, hTl, hown, hst, hbl, hsz1⟩ := hrel
    by_cases hlt : k < l.length
    · obtain ⟨b, off, rfl, hbw, hcell⟩ := (HE.out.below hbl).at_ (by omega)
      obtain ⟨d0, d1, d2, d3, d4⟩ := hcell k hlt
      have hem := HE.out.2 l[k] (List.getElem_mem _)
      have HNOW := Lib.hid (now_st hst)
      have HD := Lib.hid (do_q tells_FT hst (by omega) l[k] hem.1 hem.2)
      have HTL := Lib.hid (tell_len hst l[k])
      have HO := Lib.hid hown
      have HBL := Lib.hid hbl
      have HNT := Lib.hid (st_not hst (t := 56) (by decide) (by decide))
      have HG := Lib.hid hst.good
      have HI := Lib.hid hem.2
      have HOLD := Lib.hid hold
      generalize l[k] = ev at *
      obtain ⟨ek, esrc, et, ekey, evv⟩ := ev
      unfold evV ptrV at HD
      unfold ptrV at HNOW
      dsimp only at d0 d1 d2 d3 d4 HD
      have hbsz := hbl.size
      have HTLL := Lib.hid hTl
      clear hem hcell hown hbl hst hold hTl
      go_wp2_with (fail)
      refine HNOW.out.mono ?_
      rintro e wz ⟨rfl, rfl⟩
      go_wp2_with (fail)
      refine HD.out.mono ?_
      rintro e w2 ⟨v2, rfl, ho2, hst2, hk2⟩
      have HB2 : Hid (Below W0.heap.size W0 w2) := Lib.hid (HBL.out.trans (hk2.below HBL.out.size (fun b hb => HS3.out b hb)))
      have HO2 := Lib.hid (own_kwB HO.out hk2 HNT.out)
      obtain ⟨ts, hts⟩ : ∃ ts, ts = tellQ j' s ⟨ek, esrc, et, ekey, evv⟩ := ⟨_, rfl⟩
      obtain ⟨s2, hs2⟩ : ∃ s2, s2 = goQ j' s ⟨ek, esrc, et, ekey, evv⟩ := ⟨_, rfl⟩
      rw [← hts] at ho2 HTL
      rw [← hs2] at hst2
      have HOUT : Hid (∀ o ∈ ts, o.1.t - 1 ≤ s2.1.now ∧ (o.2.2 = true → o.1.t - 1 ≤ s.1.now ∧ ¬ o.1.t - 1 + j'.late ≤ s.1.now) ∧ (o.2.2 = false → ¬ o.1.t - 1 ≤ s.1.now)) := Lib.hid (by rw [hts, hs2]; exact once_out HJP.out HG.out)
      have HLAW : Hid (∀ (i : Nat) (hi : i < ts.length), ts[i].2.2 = false → ∀ x ∈ T ++ (ts.take i).filter (notS j'), x.2.2 = false → x.1 ≠ ts[i].1) := Lib.hid (by subst hts; exact fun i hi => once_law HJP.out HG.out HI.out HOLD.out i hi)
      have HNX : Hid (OldT s2 (T ++ ts.filter (notS j'))) := Lib.hid (by rw [hts, hs2]; exact old_next HJP.out HG.out HOLD.out)
      have HPN : Hid (∀ o ∈ ts, PnOk j' o.1) := Lib.hid (by rw [hts]; exact (tell_good HJP.out HG.out HI.out).1)
      rw [otcells_ou] at ho2
      have ho2' : w2.ownsRow wr.heap.size 56 6 v2 (ts.map (otV FT j')).length (oucells (ts.map (otV FT j'))) := by rw [List.length_map]; exact ho2
      obtain ⟨A2, c2, rfl, hc2, hm2, hr2⟩ := own_rdo ho2'
      rw [List.length_map] at hc2 ⊢
      obtain ⟨m, hm⟩ : ∃ m, m = ts.length := ⟨_, rfl⟩
      rw [← hm] at hc2 HTL ⊢
      have HM := Lib.hid hm
      have HR2 := Lib.hid hr2
      have HST2 := Lib.hid hst2
      have hsz12 : w1.heap.size ≤ w2.heap.size := Nat.le_trans hsz1 hk2.size
      have hsz02 : W0.heap.size ≤ w2.heap.size := HB2.out.size
      have hszr2 : wr.heap.size ≤ w2.heap.size := hk2.size
      have HDIF : Hid (∀ b, u7.ownBlock = some b → A2 ≠ some ⟨b, 0, none⟩) := Lib.hid (fun b hb he => by
        have h3 := (HO.out.lt b hb).2
        have h4 := (ho2'.lt b (by rw [he]; rfl)).1
        omega)
      unfold maxLen at hm2
      generalize codeQ j' s ⟨ek, esrc, et, ekey, evv⟩ = cd at *
      obtain ⟨was, hwas⟩ : ∃ was, was = s.1.now := ⟨_, rfl⟩
      rw [← hwas] at HOUT ⊢
      clear ho2 ho2' hk2 hts hs2 hr2 hst2 hm hwas HD HNOW
      go_wp2_with (fail)
      obtain ⟨WO, hWO⟩ : ∃ WO, WO = wr := ⟨_, rfl⟩
      subst hWO
      go_loopw [7, 12] (fun v i wx => ∃ (q : Nat) (T' : List Ot), q ≤ m ∧ i = .int .i64 q ∧ T' = T ++ (ts.take q).filter (notS j') ∧ wx.ownsRow w1.heap.size 56 6 v T'.length (otcells FT j' T') ∧ St wx B j' s2 (k + 1) ∧ Below W0.heap.size W0 wx ∧ w1.heap.size ≤ wx.heap.size ∧ RdO wx A2 (ts.map (otV FT j')) ∧ ∀ b, v.ownBlock = some b → A2 ≠ some ⟨b, 0, none⟩) (fun _ i _ => m - (intOf i).toNat)
      case atStart => exact ⟨0, T, Nat.zero_le _, rfl, by simp, HO2.out, HST2.out, HB2.out, hsz12, HR2.out, HDIF.out⟩
      case round =>
        obtain ⟨q, T', hq, rfl, hT', hown, hst, hbl, hsz, hrd, hdif⟩ := hrel
        by_cases hqlt : q < m
        · have hql : q < ts.length := by have := HM.out; omega
          have hq1 : q < (ts.map (otV FT j')).length := by rw [List.length_map]; exact hql
          obtain ⟨g, rfl, hg, hx⟩ := hrd (by omega)
          obtain ⟨z0, z1, z2, z3, z4, z5⟩ := hx q hq1
          rw [List.getElem_map] at z0 z1 z2 z3 z4 z5
          have hout := HOUT.out ts[q] (List.getElem_mem _)
          have hlaw := HLAW.out q hql
          have hpn := HPN.out ts[q] (List.getElem_mem _)
          have hsn : ts.take (q + 1) = ts.take q ++ [ts[q]] := List.take_succ_eq_append_getElem hql
          generalize ts[q] = o at *
          obtain ⟨⟨op, okey, of_, ot⟩, ovs, oa⟩ := o
          have hmay := may_bd.1 hpn.may
          obtain ⟨ni, hni, hop⟩ := hpn.op
          rw [HJ'.out] at hni
          unfold otV at z0 z1 z2 z3 z4 z5
          dsimp only at z0 z1 z2 z3 z4 z5 hout hop hmay hni
          have hla1 := hla.1
          have hla2 := hla.2.1
          have hlj : j'.late = la := by rw [HJ'.out]
          rw [hlj] at hout
          obtain ⟨txt, htxt⟩ : ∃ txt, txt = FT (aggJ j' op) ovs := ⟨_, rfl⟩
          rw [← htxt] at z4
          have HTXT := Lib.hid htxt
          obtain ⟨ho1, ho2, ho3⟩ := hout
          have f1 : ¬ s2.1.now < ot - 1 := by omega
          have e1 : IntKind.i64.wrap (ot - 1) = ot - 1 := by rw [IntKind.wrap_i64]; omega
          have e2 : IntKind.i64.wrap (ot - 1 + la) = ot - 1 + la := by rw [IntKind.wrap_i64]; omega
          have HBX := Lib.hid hbl
          have HSX := Lib.hid hst
          have HOX := Lib.hid hown
          have HDX := Lib.hid hdif
          have HRX : Hid (RdO wr (some ⟨g, 0, none⟩) (ts.map (otV FT j'))) := Lib.hid hrd
          have HG9 := Lib.hid hg
          have HSN := Lib.hid hsn
          have HLW := Lib.hid hlaw
          have HTT := Lib.hid hT'
          have hjx : w.heap.size < wr.heap.size := Nat.lt_of_lt_of_le hjlt hbl.size
          subst hop
          clear hx hrd hown hst hbl hdif hsn hlaw hT' hpn htxt hlj
          cases oa with
          | true =>
            have hnw := heap_alloc_new wr (Obj.cells #[.int .i64 (ni : Int), .string okey, .int .i64 of_, .int .i64 ot, .string txt, .bool true] 56)
            have hba := bl_alloc (Below.refl wr.heap.size wr) (Obj.cells #[.int .i64 (ni : Int), .string okey, .int .i64 of_, .int .i64 ot, .string txt, .bool true] 56)
            have y3 : ∀ x : Ext (wr.alloc (Obj.cells #[.int .i64 (ni : Int), .string okey, .int .i64 of_, .int .i64 ot, .string txt, .bool true] 56)), x.val.cell? ⟨wr.heap.size, 3, none⟩ = some (.int .i64 ot) := ext_cell (cell_of hnw 3)
            have y4 : ∀ x : Ext (wr.alloc (Obj.cells #[.int .i64 (ni : Int), .string okey, .int .i64 of_, .int .i64 ot, .string txt, .bool true] 56)), x.val.cell? ⟨wr.heap.size, 5, none⟩ = some (.bool true) := ext_cell (cell_of hnw 5)
            have yl := ext_cell ((hba.cell (p := ⟨w.heap.size, 3, none⟩) hjx).trans ((HBX.out.cell (p := ⟨w.heap.size, 3, none⟩) hjlt).trans x3))
            have HNOW2 : Hid (∀ x : Ext (wr.alloc (Obj.cells #[.int .i64 (ni : Int), .string okey, .int .i64 of_, .int .i64 ot, .string txt, .bool true] 56)), Calls Tryz.prog 23 #[.pointer (some ⟨B.bm, 0, none⟩)] x.val fun e w' => e = .returned (.int .i64 s2.1.now) ∧ x.val = w') := Lib.hid (fun x => now_st ((HSX.out.below hba).below x.bl))
            have HNW := Lib.hid hnw
            have HBA := Lib.hid hba
            have f2 : ¬ was < ot - 1 := by have := (ho2 rfl).1; omega
            have f3 : ¬ ot - 1 + la ≤ was := by have := (ho2 rfl).2; omega
            clear ho1 ho2 ho3
            clear hnw hba
            go_wp2_with (fail)
            have g1 : decide (s2.1.now < ot - 1) = false := decide_eq_false (by omega)
            have g2 : decide (was < ot - 1) = false := decide_eq_false (by omega)
            have g3 : decide (ot - 1 + la ≤ was) = false := decide_eq_false (by omega)
            refine wp_region_ext (by kernel_rfl) (by kernel_rfl) ?_
            repeat (go_big_quiet_step ((go_at_call 23; exact ext_calls_same (HNOW2.out _))))
            refine wpQuiet_nil ?_
            rintro w9 ⟨⟨w8, hb9⟩, rfl⟩
            have HB9 := Lib.hid hb9
            have HN9 := Lib.hid ((hb9.block _ (Array.getElem?_eq_some_iff.1 HNW.out).1).trans HNW.out)
            clear hb9 y3 y4 yl HNOW2
            have c0 := cell_of HN9.out 0
            have c1 := cell_of HN9.out 1
            have c2 := cell_of HN9.out 2
            have c3 := cell_of HN9.out 3
            have c4 := cell_of HN9.out 4
            have c5 := cell_of HN9.out 5
            simp only [List.getElem?_toArray, List.getElem?_cons_zero, List.getElem?_cons_succ] at c0 c1 c2 c3 c4 c5
            have hx9 := (Array.getElem?_eq_some_iff.1 HN9.out).1
            have HB19 : Hid (Below wr.heap.size wr w9) := Lib.hid (HBA.out.trans (HB9.out.mono HBA.out.size))
            have j4 := (HB19.out.cell (p := ⟨w.heap.size, 4, none⟩) hjx).trans ((HBX.out.cell (p := ⟨w.heap.size, 4, none⟩) hjlt).trans x4)
            have hj9 : w.heap.size < w9.heap.size := Nat.lt_of_lt_of_le hjx HB19.out.size
            obtain ⟨bo_, oo_, hjA, hbo, hco⟩ := getK (RdP.below (RdP.below HA.out HBX.out) HB19.out) (by omega)
            subst hjA
            have k0 := hco ni hni
            obtain ⟨kk, hkk⟩ : ∃ kk, (ops.getD ni zeroP).k = kk := ⟨_, rfl⟩
            rw [hkk] at k0
            have HKK := Lib.hid hkk
            clear hkk hco
            have HNS : Hid ((ts.take (q + 1)).filter (notS j') = (ts.take q).filter (notS j') ++ (if notS j' ⟨⟨(ni : Int), okey, of_, ot⟩, ovs, true⟩ then [⟨⟨(ni : Int), okey, of_, ot⟩, ovs, true⟩] else [])) := Lib.hid (by
              rw [HSN.out, List.filter_append, List.filter_cons]
              rfl)
            have hkd : kindOf j' (ni : Int) = kk := by rw [HJ'.out]; unfold kindOf; rw [← HKK.out]; simp
            have HX9 := Lib.hid (own_below HOX.out HB19.out)
            have HS9 := Lib.hid (HSX.out.below HB19.out)
            have HR9 := Lib.hid (HRX.out.below HB19.out)
            have HB09 : Hid (Below W0.heap.size W0 w9) := Lib.hid (bl_then HBX.out HB19.out)
            have hsz9 : w1.heap.size ≤ w9.heap.size := Nat.le_trans hsz HB19.out.size
            by_cases hk3 : kk = 3
            · have HT2 : Hid (T' = T ++ (ts.take (q + 1)).filter (notS j')) := Lib.hid (by
                rw [HNS.out, if_neg (by unfold notS; dsimp only; rw [hkd, hk3]; decide), List.append_nil]
                exact HTT.out)
              subst hk3
              clear hkd
              go_wp2_with (fail)
              exact ⟨⟨q + 1, T', hqlt, by push_cast; rfl, HT2.out, HX9.out, HS9.out, HB09.out, hsz9, HR9.out, HDX.out⟩, by simp only [intOf]; omega⟩
            · have hq3 : (kk == (3 : Int)) = false := by simpa using hk3
              have HT2 : Hid (T' ++ [⟨⟨(ni : Int), okey, of_, ot⟩, ovs, true⟩] = T ++ (ts.take (q + 1)).filter (notS j')) := Lib.hid (by
                rw [HNS.out, if_pos (by unfold notS; dsimp only; rw [hkd]; exact decide_eq_true hk3), ← List.append_assoc, ← HTT.out])
              have ho9 := HX9.out
              rw [otcells_ou] at ho9
              have ho9' : w9.ownsRow w1.heap.size 56 6 u7 (T'.map (otV FT j')).length (oucells (T'.map (otV FT j'))) := by rw [List.length_map]; exact ho9
              obtain ⟨A3, c3_, rfl, hc3, hm3, hr3⟩ := own_rdo ho9'
              rw [List.length_map] at hc3 ⊢
              have HR3 := Lib.hid hr3
              obtain ⟨nt, hnt⟩ : ∃ nt, nt = T'.length := ⟨_, rfl⟩
              have HNT2 := Lib.hid hnt
              have hntl : nt ≤ 1000000 := by
                have h1 := HTT.out
                have h2 : ((ts.take q).filter (notS j')).length ≤ ts.length := Nat.le_trans (List.length_filter_le _ _) (by rw [List.length_take]; omega)
                have h3 := HM.out
                have h4 := HTLL.out
                have h5 := HTL.out
                rw [hnt, h1, List.length_append]
                omega
              rw [List.length_map] at ho9'
              rw [← hnt] at hc3 ho9' ⊢
              rw [← otcells_ou] at ho9'
              have HO9 := Lib.hid ho9'
              rw [List.length_map, ← hnt] at HDX
              unfold maxLen at hm3
              clear ho9 ho9' hr3 hnt hkd HX9 HOX
              obtain ⟨WX, hWX⟩ : ∃ WX, WX = wr := ⟨_, rfl⟩
              subst hWX
              go_wp2_with (fail)
              go_loopw [14] (fun i wr => ∃ n : Nat, n ≤ nt ∧ i = .int .i64 n ∧ Below w9.heap.size w9 wr) (fun i _ => nt - (intOf i).toNat)
              case atStart => exact ⟨0, Nat.zero_le _, rfl, Below.refl _ _⟩
              case round =>
                obtain ⟨n, hn, rfl, hby⟩ := hrel
                have e0 := (hby.cell (p := ⟨WX.heap.size, 0, none⟩) hx9).trans c0
                have e1' := (hby.cell (p := ⟨WX.heap.size, 1, none⟩) hx9).trans c1
                have e2' := (hby.cell (p := ⟨WX.heap.size, 2, none⟩) hx9).trans c2
                have e3 := (hby.cell (p := ⟨WX.heap.size, 3, none⟩) hx9).trans c3
                have e4 := (hby.cell (p := ⟨WX.heap.size, 4, none⟩) hx9).trans c4
                have e5 := (hby.cell (p := ⟨WX.heap.size, 5, none⟩) hx9).trans c5
                have hxy : WX.heap.size < wr.heap.size := Nat.lt_of_lt_of_le hx9 hby.size
                have HBY := Lib.hid hby
                by_cases hnlt : n < nt
                · have hn0 : n < T'.length := by have := HNT2.out; omega
                  have hn1 : n < (T'.map (otV FT j')).length := by rw [List.length_map]; exact hn0
                  obtain ⟨g3, rfl, hg3, hx3⟩ := (HR3.out.below hby) (by omega)
                  clear hby
                  have yy := ext_cell e5
                  clear e0 e1' e2' e3 e4 e5 hx3
                  go_wp2_with (fail)
                  refine wp_region_ext (by kernel_rfl) (by kernel_rfl) ?_
                  repeat (go_big_quiet_step (fail))
                  refine wpQuiet_nil ?_
                  rintro w8 ⟨⟨wz, hbz⟩, rfl⟩
                  have HBZ := Lib.hid (bl_then HBY.out hbz)
                  clear hbz
                  go_wp2_with (fail)
                  exact ⟨⟨n + 1, hnlt, by push_cast; rfl, HBZ.out⟩, by simp only [intOf]; omega⟩
                · have hne : n = nt := by omega
                  subst hne
                  have hba2 := bl_alloc (Below.refl wr.heap.size wr) (Obj.cells #[.int .i64 (ni : Int), .string okey, .int .i64 of_, .int .i64 ot, .string txt, .bool true] 56)
                  have HO10 := Lib.hid (own_below (own_below HO9.out hby) hba2)
                  have HB10 : Hid (Below W0.heap.size W0 (wr.alloc (Obj.cells #[.int .i64 (ni : Int), .string okey, .int .i64 of_, .int .i64 ot, .string txt, .bool true] 56))) := Lib.hid (bl_then HB09.out (bl_then hby hba2))
                  have HS10 := Lib.hid ((HS9.out.below hby).below hba2)
                  have HR10 := Lib.hid ((HR9.out.below hby).below hba2)
                  have HNR : Hid ((wr.alloc (Obj.cells #[.int .i64 (ni : Int), .string okey, .int .i64 of_, .int .i64 ot, .string txt, .bool true] 56)).ownsRow 0 56 6 (.slice (some ⟨wr.heap.size, 0, none⟩) 1 1) 1 (otcells FT j' [⟨⟨(ni : Int), okey, of_, ot⟩, ovs, true⟩])) := Lib.hid (own_one (news := otcells FT j' [⟨⟨(ni : Int), okey, of_, ot⟩, ovs, true⟩]) (by rw [HTXT.out]; exact heap_alloc_new wr _) rfl (Nat.zero_le _))
                  have HON := Lib.hid (otcells_one FT j' [⟨⟨(ni : Int), okey, of_, ot⟩, ovs, true⟩])
                  have hbz2 : w1.heap.size ≤ (wr.alloc (Obj.cells #[.int .i64 (ni : Int), .string okey, .int .i64 of_, .int .i64 ot, .string txt, .bool true] 56)).heap.size := Nat.le_trans hsz9 (Nat.le_trans hby.size hba2.size)
                  clear hby hba2
                  go_wp2_with (at_builtin; refine wpList_append_row _ rfl _ _ 50 56 6 64 (.agg #[.int .i64 0, .string ⟨#[]⟩, .int .i64 0, .int .i64 0, .string ⟨#[]⟩, .bool false]) und50 i56 rfl (by decide) (by decide) rfl w1.heap.size 0 n _ _ rfl HO10.out _ 1 _ rfl HNR.out HON.out (by omega) hbz2 ?_)
                  intro v7 w7 ho7 hg7 hl7
                  have HB7 : Hid (Below W0.heap.size W0 w7) := Lib.hid (HB10.out.grown hg7 HB10.out.size (fun b hb => Nat.le_trans hw01 (HO10.out.lt b hb).1))
                  have HS7 := Lib.hid (HS10.out.own HO10.out hg7 (by decide) (by decide) (by decide) HOPA.out HTB.out)
                  have HO7 : Hid (w7.ownsRow w1.heap.size 56 6 v7 (T' ++ [(⟨⟨(ni : Int), okey, of_, ot⟩, ovs, true⟩ : Ot)]).length (otcells FT j' (T' ++ [(⟨⟨(ni : Int), okey, of_, ot⟩, ovs, true⟩ : Ot)]))) := Lib.hid (by rw [otcells_app, List.length_append, ← HNT2.out]; exact ho7)
                  have HR7 := Lib.hid (HR10.out.grown hg7 HDX.out)
                  have HD7 : Hid (∀ b, v7.ownBlock = some b → (some ⟨g, 0, none⟩ : Option Addr) ≠ some ⟨b, 0, none⟩) := Lib.hid (fun b hb he => by
                    rcases hl7 with h | h
                    · exact HDX.out b (h ▸ hb) he
                    · rw [h] at hb
                      injection hb with hb
                      injection he with he
                      injection he with he
                      have h1 : g < (wr.alloc (Obj.cells #[.int .i64 (ni : Int), .string okey, .int .i64 of_, .int .i64 ot, .string txt, .bool true] 56)).heap.size := by
                        have := hxy
                        have := HG9.out
                        simp
                        omega
                      omega)
                  have HSZ7 := Lib.hid (Nat.le_trans hbz2 hg7.size)
                  clear ho7 hg7 hl7
                  go_wp2_with (fail)
                  exact ⟨⟨q + 1, _, hqlt, by push_cast; rfl, HT2.out, HO7.out, HS7.out, HB7.out, HSZ7.out, HR7.out, HD7.out⟩, by simp only [intOf]; omega⟩
          | false =>
            have hnw := heap_alloc_new wr (Obj.cells #[.int .i64 (ni : Int), .string okey, .int .i64 of_, .int .i64 ot, .string txt, .bool false] 56)
            have hba := bl_alloc (Below.refl wr.heap.size wr) (Obj.cells #[.int .i64 (ni : Int), .string okey, .int .i64 of_, .int .i64 ot, .string txt, .bool false] 56)
            have y3 : ∀ x : Ext (wr.alloc (Obj.cells #[.int .i64 (ni : Int), .string okey, .int .i64 of_, .int .i64 ot, .string txt, .bool false] 56)), x.val.cell? ⟨wr.heap.size, 3, none⟩ = some (.int .i64 ot) := ext_cell (cell_of hnw 3)
            have y4 : ∀ x : Ext (wr.alloc (Obj.cells #[.int .i64 (ni : Int), .string okey, .int .i64 of_, .int .i64 ot, .string txt, .bool false] 56)), x.val.cell? ⟨wr.heap.size, 5, none⟩ = some (.bool false) := ext_cell (cell_of hnw 5)
            have yl := ext_cell ((hba.cell (p := ⟨w.heap.size, 3, none⟩) hjx).trans ((HBX.out.cell (p := ⟨w.heap.size, 3, none⟩) hjlt).trans x3))
            have HNOW2 : Hid (∀ x : Ext (wr.alloc (Obj.cells #[.int .i64 (ni : Int), .string okey, .int .i64 of_, .int .i64 ot, .string txt, .bool false] 56)), Calls Tryz.prog 23 #[.pointer (some ⟨B.bm, 0, none⟩)] x.val fun e w' => e = .returned (.int .i64 s2.1.now) ∧ x.val = w') := Lib.hid (fun x => now_st ((HSX.out.below hba).below x.bl))
            have HNW := Lib.hid hnw
            have HBA := Lib.hid hba
            have f2 : ¬ ot - 1 ≤ was := by have := ho3 rfl; omega
            clear ho1 ho2 ho3
            clear hnw hba
            go_wp2_with (fail)
            have g1 : decide (s2.1.now < ot - 1) = false := decide_eq_false (by omega)
            have g2 : decide (ot - 1 ≤ was) = false := decide_eq_false (by omega)
            refine wp_region_ext (by kernel_rfl) (by kernel_rfl) ?_
            repeat (go_big_quiet_step ((go_at_call 23; exact ext_calls_same (HNOW2.out _))))
            refine wpQuiet_nil ?_
            rintro w9 ⟨⟨w8, hb9⟩, rfl⟩
            have HB9 := Lib.hid hb9
            have HN9 := Lib.hid ((hb9.block _ (Array.getElem?_eq_some_iff.1 HNW.out).1).trans HNW.out)
            clear hb9 y3 y4 yl HNOW2
            have c0 := cell_of HN9.out 0
            have c1 := cell_of HN9.out 1
            have c2 := cell_of HN9.out 2
            have c3 := cell_of HN9.out 3
            have c4 := cell_of HN9.out 4
            have c5 := cell_of HN9.out 5
            simp only [List.getElem?_toArray, List.getElem?_cons_zero, List.getElem?_cons_succ] at c0 c1 c2 c3 c4 c5
            have hx9 := (Array.getElem?_eq_some_iff.1 HN9.out).1
            have HB19 : Hid (Below wr.heap.size wr w9) := Lib.hid (HBA.out.trans (HB9.out.mono HBA.out.size))
            have j4 := (HB19.out.cell (p := ⟨w.heap.size, 4, none⟩) hjx).trans ((HBX.out.cell (p := ⟨w.heap.size, 4, none⟩) hjlt).trans x4)
            have hj9 : w.heap.size < w9.heap.size := Nat.lt_of_lt_of_le hjx HB19.out.size
            obtain ⟨bo_, oo_, hjA, hbo, hco⟩ := getK (RdP.below (RdP.below HA.out HBX.out) HB19.out) (by omega)
            subst hjA
            have k0 := hco ni hni
            obtain ⟨kk, hkk⟩ : ∃ kk, (ops.getD ni zeroP).k = kk := ⟨_, rfl⟩
            rw [hkk] at k0
            have HKK := Lib.hid hkk
            clear hkk hco
            have HNS : Hid ((ts.take (q + 1)).filter (notS j') = (ts.take q).filter (notS j') ++ (if notS j' ⟨⟨(ni : Int), okey, of_, ot⟩, ovs, false⟩ then [⟨⟨(ni : Int), okey, of_, ot⟩, ovs, false⟩] else [])) := Lib.hid (by
              rw [HSN.out, List.filter_append, List.filter_cons]
              rfl)
            have hkd : kindOf j' (ni : Int) = kk := by rw [HJ'.out]; unfold kindOf; rw [← HKK.out]; simp
            have HX9 := Lib.hid (own_below HOX.out HB19.out)
            have HS9 := Lib.hid (HSX.out.below HB19.out)
            have HR9 := Lib.hid (HRX.out.below HB19.out)
            have HB09 : Hid (Below W0.heap.size W0 w9) := Lib.hid (bl_then HBX.out HB19.out)
            have hsz9 : w1.heap.size ≤ w9.heap.size := Nat.le_trans hsz HB19.out.size
            by_cases hk3 : kk = 3
            · have HT2 : Hid (T' = T ++ (ts.take (q + 1)).filter (notS j')) := Lib.hid (by
                rw [HNS.out, if_neg (by unfold notS; dsimp only; rw [hkd, hk3]; decide), List.append_nil]
                exact HTT.out)
              subst hk3
              clear hkd
              go_wp2_with (fail)
              exact ⟨⟨q + 1, T', hqlt, by push_cast; rfl, HT2.out, HX9.out, HS9.out, HB09.out, hsz9, HR9.out, HDX.out⟩, by simp only [intOf]; omega⟩
            · have hq3 : (kk == (3 : Int)) = false := by simpa using hk3
              have HT2 : Hid (T' ++ [⟨⟨(ni : Int), okey, of_, ot⟩, ovs, false⟩] = T ++ (ts.take (q + 1)).filter (notS j')) := Lib.hid (by
                rw [HNS.out, if_pos (by unfold notS; dsimp only; rw [hkd]; exact decide_eq_true hk3), ← List.append_assoc, ← HTT.out])
              have ho9 := HX9.out
              rw [otcells_ou] at ho9
              have ho9' : w9.ownsRow w1.heap.size 56 6 u7 (T'.map (otV FT j')).length (oucells (T'.map (otV FT j'))) := by rw [List.length_map]; exact ho9
              obtain ⟨A3, c3_, rfl, hc3, hm3, hr3⟩ := own_rdo ho9'
              rw [List.length_map] at hc3 ⊢
              have HR3 := Lib.hid hr3
              obtain ⟨nt, hnt⟩ : ∃ nt, nt = T'.length := ⟨_, rfl⟩
              have HNT2 := Lib.hid hnt
              have hntl : nt ≤ 1000000 := by
                have h1 := HTT.out
                have h2 : ((ts.take q).filter (notS j')).length ≤ ts.length := Nat.le_trans (List.length_filter_le _ _) (by rw [List.length_take]; omega)
                have h3 := HM.out
                have h4 := HTLL.out
                have h5 := HTL.out
                rw [hnt, h1, List.length_append]
                omega
              rw [List.length_map] at ho9'
              rw [← hnt] at hc3 ho9' ⊢
              rw [← otcells_ou] at ho9'
              have HO9 := Lib.hid ho9'
              rw [List.length_map, ← hnt] at HDX
              unfold maxLen at hm3
              clear ho9 ho9' hr3 hnt hkd HX9 HOX
              obtain ⟨WX, hWX⟩ : ∃ WX, WX = wr := ⟨_, rfl⟩
              subst hWX
              go_wp2_with (fail)
              go_loopw [14] (fun i wr => ∃ n : Nat, n ≤ nt ∧ i = .int .i64 n ∧ Below w9.heap.size w9 wr) (fun i _ => nt - (intOf i).toNat)
              case atStart => exact ⟨0, Nat.zero_le _, rfl, Below.refl _ _⟩
              case round =>
                obtain ⟨n, hn, rfl, hby⟩ := hrel
                have e0 := (hby.cell (p := ⟨WX.heap.size, 0, none⟩) hx9).trans c0
                have e1' := (hby.cell (p := ⟨WX.heap.size, 1, none⟩) hx9).trans c1
                have e2' := (hby.cell (p := ⟨WX.heap.size, 2, none⟩) hx9).trans c2
                have e3 := (hby.cell (p := ⟨WX.heap.size, 3, none⟩) hx9).trans c3
                have e4 := (hby.cell (p := ⟨WX.heap.size, 4, none⟩) hx9).trans c4
                have e5 := (hby.cell (p := ⟨WX.heap.size, 5, none⟩) hx9).trans c5
                have hxy : WX.heap.size < wr.heap.size := Nat.lt_of_lt_of_le hx9 hby.size
                have HBY := Lib.hid hby
                by_cases hnlt : n < nt
                · have hn0 : n < T'.length := by have := HNT2.out; omega
                  have hn1 : n < (T'.map (otV FT j')).length := by rw [List.length_map]; exact hn0
                  obtain ⟨g3, rfl, hg3, hx3⟩ := (HR3.out.below hby) (by omega)
                  clear hby
                  have yy := ext_cell e5
                  have ye0 := ext_cell e0
                  have ye1 := ext_cell e1'
                  have ye2 := ext_cell e2'
                  have ye3 := ext_cell e3
                  obtain ⟨u0, u1, u2, u3, u4, u5⟩ := hx3 n hn1
                  rw [List.getElem_map] at u0 u1 u2 u3 u5
                  have hlx := HLW.out trivial T'[n] (by rw [← HTT.out]; exact List.getElem_mem _)
                  generalize T'[n] = x at *
                  obtain ⟨⟨xop, xkey, xf, xt⟩, xvs, xa⟩ := x
                  unfold otV at u0 u1 u2 u3 u5
                  dsimp only at u0 u1 u2 u3 u5 hlx
                  have yu0 := ext_cell u0
                  have yu1 := ext_cell u1
                  have yu2 := ext_cell u2
                  have yu3 := ext_cell u3
                  have yu5 := ext_cell u5
                  have hwq := fun W => eql_win W xf of_ xt ot
                  clear u0 u1 u2 u3 u4 u5 e0 e1' e2' e3 e4 e5 hx3
                  by_cases hop : xop = (ni : Int)
                  · have hb1 : (xop == (ni : Int)) = true := by simpa using hop
                    by_cases hky : xkey = okey
                    · have hb2 : (xkey.toList == okey.toList) = true := tl_eq hky
                      by_cases hw : (xf, xt) = (of_, ot)
                      · rw [decide_eq_true hw] at hwq
                        have hxa : xa = true := by
                          cases xa with
                          | true => rfl
                          | false =>
                            exfalso
                            refine hlx rfl ?_
                            have hw1 := Prod.mk.inj hw
                            rw [hop, hky, hw1.1, hw1.2]
                        subst hxa
                        clear hlx hw hky hop
                        go_wp2_with (fail)
                        refine wp_region_ext (by kernel_rfl) (by kernel_rfl) ?_
                        repeat (go_big_quiet_step (fail))
                        refine wpQuiet_nil ?_
                        rintro w8 ⟨⟨wz, hbz⟩, rfl⟩
                        have HBZ := Lib.hid (bl_then HBY.out hbz)
                        clear hbz
                        go_wp2_with (fail)
                        exact ⟨⟨n + 1, hnlt, by push_cast; rfl, HBZ.out⟩, by simp only [intOf]; omega⟩
                      · rw [decide_eq_false hw] at hwq
                        clear hlx hw hky hop
                        go_wp2_with (fail)
                        refine wp_region_ext (by kernel_rfl) (by kernel_rfl) ?_
                        repeat (go_big_quiet_step (fail))
                        refine wpQuiet_nil ?_
                        rintro w8 ⟨⟨wz, hbz⟩, rfl⟩
                        have HBZ := Lib.hid (bl_then HBY.out hbz)
                        clear hbz
                        go_wp2_with (fail)
                        exact ⟨⟨n + 1, hnlt, by push_cast; rfl, HBZ.out⟩, by simp only [intOf]; omega⟩
                    · have hb2 : (xkey.toList == okey.toList) = false := tl_ne hky
                      clear hlx hky hop
                      go_wp2_with (fail)
                      refine wp_region_ext (by kernel_rfl) (by kernel_rfl) ?_
                      repeat (go_big_quiet_step (fail))
                      refine wpQuiet_nil ?_
                      rintro w8 ⟨⟨wz, hbz⟩, rfl⟩
                      have HBZ := Lib.hid (bl_then HBY.out hbz)
                      clear hbz
                      go_wp2_with (fail)
                      exact ⟨⟨n + 1, hnlt, by push_cast; rfl, HBZ.out⟩, by simp only [intOf]; omega⟩
                  · have hb1 : (xop == (ni : Int)) = false := by simpa using hop
                    clear hlx hop
                    go_wp2_with (fail)
                    refine wp_region_ext (by kernel_rfl) (by kernel_rfl) ?_
                    repeat (go_big_quiet_step (fail))
                    refine wpQuiet_nil ?_
                    rintro w8 ⟨⟨wz, hbz⟩, rfl⟩
                    have HBZ := Lib.hid (bl_then HBY.out hbz)
                    clear hbz
                    go_wp2_with (fail)
                    exact ⟨⟨n + 1, hnlt, by push_cast; rfl, HBZ.out⟩, by simp only [intOf]; omega⟩
                · have hne : n = nt := by omega
                  subst hne
                  have hba2 := bl_alloc (Below.refl wr.heap.size wr) (Obj.cells #[.int .i64 (ni : Int), .string okey, .int .i64 of_, .int .i64 ot, .string txt, .bool false] 56)
                  have HO10 := Lib.hid (own_below (own_below HO9.out hby) hba2)
                  have HB10 : Hid (Below W0.heap.size W0 (wr.alloc (Obj.cells #[.int .i64 (ni : Int), .string okey, .int .i64 of_, .int .i64 ot, .string txt, .bool false] 56))) := Lib.hid (bl_then HB09.out (bl_then hby hba2))
                  have HS10 := Lib.hid ((HS9.out.below hby).below hba2)
                  have HR10 := Lib.hid ((HR9.out.below hby).below hba2)
                  have HNR : Hid ((wr.alloc (Obj.cells #[.int .i64 (ni : Int), .string okey, .int .i64 of_, .int .i64 ot, .string txt, .bool false] 56)).ownsRow 0 56 6 (.slice (some ⟨wr.heap.size, 0, none⟩) 1 1) 1 (otcells FT j' [⟨⟨(ni : Int), okey, of_, ot⟩, ovs, false⟩])) := Lib.hid (own_one (news := otcells FT j' [⟨⟨(ni : Int), okey, of_, ot⟩, ovs, false⟩]) (by rw [HTXT.out]; exact heap_alloc_new wr _) rfl (Nat.zero_le _))
                  have HON := Lib.hid (otcells_one FT j' [⟨⟨(ni : Int), okey, of_, ot⟩, ovs, false⟩])
                  have hbz2 : w1.heap.size ≤ (wr.alloc (Obj.cells #[.int .i64 (ni : Int), .string okey, .int .i64 of_, .int .i64 ot, .string txt, .bool false] 56)).heap.size := Nat.le_trans hsz9 (Nat.le_trans hby.size hba2.size)
                  clear hby hba2
                  go_wp2_with (at_builtin; refine wpList_append_row _ rfl _ _ 50 56 6 64 (.agg #[.int .i64 0, .string ⟨#[]⟩, .int .i64 0, .int .i64 0, .string ⟨#[]⟩, .bool false]) und50 i56 rfl (by decide) (by decide) rfl w1.heap.size 0 n _ _ rfl HO10.out _ 1 _ rfl HNR.out HON.out (by omega) hbz2 ?_)
                  intro v7 w7 ho7 hg7 hl7
                  have HB7 : Hid (Below W0.heap.size W0 w7) := Lib.hid (HB10.out.grown hg7 HB10.out.size (fun b hb => Nat.le_trans hw01 (HO10.out.lt b hb).1))
                  have HS7 := Lib.hid (HS10.out.own HO10.out hg7 (by decide) (by decide) (by decide) HOPA.out HTB.out)
                  have HO7 : Hid (w7.ownsRow w1.heap.size 56 6 v7 (T' ++ [(⟨⟨(ni : Int), okey, of_, ot⟩, ovs, false⟩ : Ot)]).length (otcells FT j' (T' ++ [(⟨⟨(ni : Int), okey, of_, ot⟩, ovs, false⟩ : Ot)]))) := Lib.hid (by rw [otcells_app, List.length_append, ← HNT2.out]; exact ho7)
                  have HR7 := Lib.hid (HR10.out.grown hg7 HDX.out)
                  have HD7 : Hid (∀ b, v7.ownBlock = some b → (some ⟨g, 0, none⟩ : Option Addr) ≠ some ⟨b, 0, none⟩) := Lib.hid (fun b hb he => by
                    rcases hl7 with h | h
                    · exact HDX.out b (h ▸ hb) he
                    · rw [h] at hb
                      injection hb with hb
                      injection he with he
                      injection he with he
                      have h1 : g < (wr.alloc (Obj.cells #[.int .i64 (ni : Int), .string okey, .int .i64 of_, .int .i64 ot, .string txt, .bool false] 56)).heap.size := by
                        have := hxy
                        have := HG9.out
                        simp
                        omega
                      omega)
                  have HSZ7 := Lib.hid (Nat.le_trans hbz2 hg7.size)
                  clear ho7 hg7 hl7
                  go_wp2_with (fail)
                  exact ⟨⟨q + 1, _, hqlt, by push_cast; rfl, HT2.out, HO7.out, HS7.out, HB7.out, HSZ7.out, HR7.out, HD7.out⟩, by simp only [intOf]; omega⟩
        · have hqe : q = m := by omega
          subst hqe
          have HT2 : Hid (T' = T ++ ts.filter (notS j')) := Lib.hid (by
            rw [hT', HM.out, List.take_length])
          have HX := Lib.hid hown
          have HS := Lib.hid hst
          have HBX := Lib.hid hbl
          have HTL3 : Hid (T'.length ≤ 3000 * (k + 1)) := Lib.hid (by
            rw [HT2.out, List.length_append]
            have h1 : (ts.filter (notS j')).length ≤ ts.length := List.length_filter_le _ _
            have h2 := HM.out
            have h3 := HTL.out
            have h4 := HTLL.out
            omega)
          have HOLD2 : Hid (OldT s2 T') := Lib.hid (by rw [HT2.out]; exact HNX.out)
          clear hown hst hbl hrd hdif hT'
          go_wp2_with (fail)
          exact ⟨⟨k + 1, s2, T', hlt, by push_cast; rfl, HOLD2.out, HTL3.out, HX.out, HS.out, HBX.out, hsz⟩, by simp only [intOf]; omega⟩
    · have HAW := Lib.hid (awake_any wr)
      have HBL := Lib.hid hbl
      clear hown hbl hst
      go_wp2_with (fail)
      refine HAW.out.mono ?_
      rintro e w7 ⟨rfl, hb7⟩
      have HB7 := Lib.hid (bl_then HB.out (bl_then HBL.out hb7))
      clear hb7
      go_wp2_with (fail)
      go_ret
      exact ⟨rfl, HB7.out⟩
/-- ModelOnce, walked. -/
theorem monce_law (j : Jb) (l : List Ev) (A : Option Addr) (c : Nat) (w : World) (hA : RdP w j.A j.ops) (hc : j.ops.length ≤ j.c) (hcb : j.c ≤ 9223372036854775807) (ht : Tab w) (hE : RdE w A l) (hlc : l.length ≤ c) (hcm : c ≤ 9223372036854775807) : Calls Tryz.prog 8 #[jbV j, .slice A l.length c] w fun e w' => e = .returned (.bool true) ∧ Below w.heap.size w w' := by
  by_cases h : 60 < l.length ∨ 8 < j.ops.length
  · exact once_early j l A c w h
  · have h1 : ¬ 60 < l.length := fun hh => h (.inl hh)
    have h2 : ¬ 8 < j.ops.length := fun hh => h (.inr hh)
    by_cases hj : jobP j
    · exact once_main j l A c w hA hc hcb ht hE hlc hcm (by omega) (by omega) hj
    · exact once_nojob j l A c w hA hc hcb (by omega) (by omega) hj
end Go.Proofs.YtfojblbnhapedaaGreatDoor
