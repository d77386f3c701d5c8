/- Contract of model.passes. Conditions: as each theorem states them. -/
import Derived.Test.YtfojblbnhapedaaGreatDoorP4
namespace Go.Proofs.YtfojblbnhapedaaGreatDoor
open Go.RowKit Go.Maps
set_option linter.unusedVariables false
set_option linter.unusedSimpArgs false

/-- Has a window come due between two times? -/
def dueB (was now : Int) (p : Pl) : Bool := decide (p.t - 1 ≤ now) && !decide (p.t - 1 ≤ was)
def goneB (late now : Int) (p : Pl) : Bool := decide (p.t - 1 + late ≤ now)
def dueP (was now : Int) (l : List (Pl × Rw)) : List Pl := (l.filter fun b => dueB was now b.1).map (·.1)
theorem dueP_snoc (was now : Int) (l : List (Pl × Rw)) (p : Pl) (r : Rw) : dueP was now (l ++ [(p, r)]) = dueP was now l ++ (if dueB was now p then [p] else []) := by
  unfold dueP
  rw [List.filter_append, List.map_append]
  congr 1
  rw [List.filter_cons]
  split <;> simp_all
theorem dueP_perm {was now : Int} {l l' : List (Pl × Rw)} (h : l.Perm l') : (dueP was now l).Perm (dueP was now l') := (h.filter _).map _
theorem dueP_len (was now : Int) (l : List (Pl × Rw)) : (dueP was now l).length ≤ l.length := by
  unfold dueP
  rw [List.length_map]
  exact List.length_filter_le _ _
/-- The outputs of what came due. -/
def passO (was now : Int) (L : PL) : PL := (sortP ((L.filter fun y => dueB was now y.1).map (·.1))).map fun p => (p, val1 L p)
/-- What is not gone. -/
def passL (late now : Int) (L : PL) : PL := L.filter fun y => !goneB late now y.1
theorem plcells_app (l : List Pl) (p : Pl) : plcells (l ++ [p]) = plcells l ++ [.int .i64 p.op, .string p.key, .int .i64 p.f, .int .i64 p.t] := by
  unfold plcells
  rw [List.flatMap_append]
  rfl
theorem plcells_at : ∀ (l : List Pl) (i : Nat) (h : i < l.length), (plcells l)[i * 4]? = some (.int .i64 (l[i]).op) ∧ (plcells l)[i * 4 + 1]? = some (.string (l[i]).key) ∧ (plcells l)[i * 4 + 2]? = some (.int .i64 (l[i]).f) ∧ (plcells l)[i * 4 + 3]? = some (.int .i64 (l[i]).t)
  | [], i, h => absurd h (Nat.not_lt_zero _)
  | p :: l, 0, _ => ⟨rfl, rfl, rfl, rfl⟩
  | p :: l, i + 1, h => by
    have := plcells_at l i (by simpa using h)
    rw [show (i + 1) * 4 = i * 4 + 1 + 1 + 1 + 1 by omega]
    simpa [plcells, encP] using this
theorem own_oneB {w : World} {g e sz B : Nat} {news : List Value} (h : w.heap[g]? = some (Obj.cells news.toArray e)) (hl : news.length = 1 * sz) (hB : B ≤ g) : w.ownsRow B e sz (.slice (some ⟨g, 0, none⟩) 1 1) 1 news := own_one h hl hB
set_option maxRecDepth 100000 in
set_option maxHeartbeats 4000000 in
theorem gone_md (B : Lo) (M : Md) (f t x : Int) (w : World) (h : w.heap[B.bm]? = some (Obj.cells (mdcells B M) 87)) (hla : 0 ≤ M.j.late ∧ M.j.late ≤ 1099511627776) (ht : -1000000000000000000 ≤ t ∧ t ≤ 1000000000000000000) :
    Calls Tryz.prog 72 #[ptrV B.bm, .agg #[.int .i64 f, .int .i64 t], .int .i64 x] w fun e w' => e = .returned (.bool (decide (t - 1 + M.j.late ≤ x))) ∧ Below w.heap.size w w' := by
  have hb := bl_alloc (Below.refl w.heap.size w) (Obj.cells #[.int .i64 f, .int .i64 t] 54)
  have HB := Lib.hid hb
  have hm := (hb.block _ (Array.getElem?_eq_some_iff.1 h).1).trans h
  have c3 := cell_of hm 3
  have hl := (Array.getElem?_eq_some_iff.1 hm).1
  simp only [mdcells, List.getElem?_toArray, List.getElem?_cons_zero, List.getElem?_cons_succ] at c3
  have hn := heap_alloc_new w (Obj.cells #[.int .i64 f, .int .i64 t] 54)
  have x1 := cell_of hn 1
  simp only [List.getElem?_toArray, List.getElem?_cons_zero, List.getElem?_cons_succ] at x1
  have xl := (Array.getElem?_eq_some_iff.1 hn).1
  have e1 : IntKind.i64.wrap (t - 1) = t - 1 := by rw [IntKind.wrap_i64]; omega
  have e2 : IntKind.i64.wrap (t - 1 + M.j.late) = t - 1 + M.j.late := by rw [IntKind.wrap_i64]; omega
  have y1 := ext_cell x1
  have y3 := ext_cell c3
  unfold ptrV
  clear h hm hb hn x1 c3
  go_enter Tryz.func72, Tryz.ntmps72
  go_wp2_with (fail)
  refine wp_region_ext (by kernel_rfl) (by kernel_rfl) ?_
  repeat (go_big_quiet_step (fail))
  refine wpQuiet_nil ?_
  rintro w8 ⟨⟨w9, hb9⟩, rfl⟩
  have HB9 := Lib.hid (bl_then HB.out hb9)
  clear hb9 y1 y3
  go_wp2_with (fail)
  go_ret
  exact ⟨rfl, HB9.out⟩
/-- The model stays, its map another one. -/
theorem MdAt.remap {w w' : World} {B : Lo} {M : Md} {L' : List Pn} (h : MdAt w B M) (hk : Kw (fun b => b = B.bo) w w') (hm : MapAt w' B.bo (L'.map fun x : Pn => (x.p, x.r))) (hs : ∀ x ∈ L', x ∈ M.L) : MdAt w' B { M with L := L' } := by
  obtain ⟨es, clock, hmc⟩ := h.mapc
  refine ⟨(hk.block _ h.lt (fun e => ?_)).trans h.md, (hk.block _ h.mks.lt (fun e => ?_)).trans h.mks, hm, h.ops.kw hk (fun a ha => (h.opa a ha).2.2.2), fun x hx => (h.rows x (hs x hx)).kw hk (fun e => ?_), fun a ha => ⟨Nat.lt_of_lt_of_le (h.opa a ha).1 hk.size, (h.opa a ha).2⟩⟩
  · have := h.md
    rw [e, hmc] at this
    cases this
  · have := h.mks
    unfold MkAt at this
    rw [e, hmc] at this
    cases this
  · obtain ⟨cur, hc⟩ := (h.rows x (hs x hx)).heap
    rw [e, hmc] at hc
    cases hc
theorem dueP_plain (was now : Int) (M : Md) : dueP was now M.Lp = ((plain M.L).filter fun y => dueB was now y.1).map (·.1) := by
  unfold dueP Md.Lp plain
  rw [List.filter_map, List.filter_map, List.map_map, List.map_map]
  rfl
theorem valsN_of {L : List Pn} (hnd : (L.map (·.p)).Nodup) {x : Pn} (hx : x ∈ L) : lookN L x.p = some x := by
  cases hl : lookN L x.p with
  | none => exact absurd rfl (lookN_none hl x hx)
  | some y =>
    obtain ⟨hy, e⟩ := lookN_some hl
    have h1 := strikeN_perm hnd hy e
    have h2 := h1.mem_iff.1 hx
    rcases List.mem_cons.1 h2 with rfl | h2
    · rfl
    · exact absurd rfl (strikeN_mem.1 h2).2
theorem dueB_tt {was now : Int} {p : Pl} (h1 : p.t - 1 ≤ now) (h2 : ¬ p.t - 1 ≤ was) : dueB was now p = true := by unfold dueB; simp [h1, h2]
theorem dueB_tf {was now : Int} {p : Pl} (h2 : p.t - 1 ≤ was) : dueB was now p = false := by unfold dueB; simp [h2]
theorem dueB_f {was now : Int} {p : Pl} (h1 : ¬ p.t - 1 ≤ now) : dueB was now p = false := by unfold dueB; simp [h1]
/-- What passes answers and leaves. -/
def PasR (w : World) (B : Lo) (M : Md) (F : Int → List Int → ByteArray) (was : Int) (r : Ending) (w' : World) : Prop :=
  ∃ v L', r = .returned v ∧ w'.ownsRow w.heap.size 56 6 v (passO was M.mks.now (plain M.L)).length (outcells F M.aggAt false (passO was M.mks.now (plain M.L))) ∧ plain L' = passL M.j.late M.mks.now (plain M.L) ∧ MdAt w' B { M with L := L' } ∧ Kw (fun b => b = B.bo) w w'
set_option maxRecDepth 100000 in
set_option maxHeartbeats 16000000 in
theorem passes_any (B : Lo) (M : Md) (was : Int) (w : World) (F : Int → List Int → ByteArray) (okT : Int → List Int → Prop) (h : MdAt w B M) (okm : OkM M.mks) (hla : 0 ≤ M.j.late ∧ M.j.late ≤ 1099511627776) (hnd : (M.L.map (·.p)).Nodup) (hlen : M.L.length ≤ 20000)
    (hbd : ∀ x ∈ M.L, -1000000000000000000 ≤ x.p.t ∧ x.p.t ≤ 1000000000000000000) (hop : ∀ x ∈ M.L, ∃ i : Nat, i < M.j.ops.length ∧ x.p.op = i) (HT : ToldOk w B F okT) (hok : ∀ o ∈ passO was M.mks.now (plain M.L), okT (M.aggAt o.1) o.2) :
    Calls Tryz.prog 43 #[ptrV B.bm, .int .i64 was] w (PasR w B M F was) := by
  have H := Lib.hid h
  have HOKM := Lib.hid okm
  have HND := Lib.hid hnd
  have HBD := Lib.hid hbd
  have HOP := Lib.hid hop
  have HTT := Lib.hid HT
  have HOK := Lib.hid hok
  have HLA := Lib.hid hla
  obtain ⟨now, hnow⟩ : ∃ now, M.mks.now = now := ⟨_, rfl⟩
  have HNW := Lib.hid hnow
  have HN38 := Lib.hid (mnow_any B.bk M.mks w h.mks okm)
  rw [hnow] at HN38
  have c5 := h.c 5
  have c6 := h.c 6
  have ml := h.lt
  have HMP := Lib.hid h.map
  obtain ⟨Lp, hLp⟩ : ∃ Lp, M.Lp = Lp := ⟨_, rfl⟩
  have HLP := Lib.hid hLp
  have e0 : (M.L.map fun x => (x.p, x.r)) = Lp := hLp
  rw [e0] at HMP
  have HNDP : Hid ((Lp.map (·.1)).Nodup) := Lib.hid (by rw [← hLp, M.Lp_eq]; exact hnd)
  have hll : Lp.length ≤ 20000 := by rw [← e0, List.length_map]; exact hlen
  have HBP : Hid (∀ b ∈ Lp, -1000000000000000000 ≤ b.1.t ∧ b.1.t ≤ 1000000000000000000) := Lib.hid (fun b hb => by
    rw [← e0] at hb
    obtain ⟨x, hx, rfl⟩ := List.mem_map.1 hb
    exact hbd x hx)
  simp only [mdcells, List.getElem?_toArray, List.getElem?_cons_zero, List.getElem?_cons_succ] at c5 c6
  unfold ptrV at *
  clear h okm hnd hlen hbd hop HT hok hnow hLp e0 hla
  go_enter Tryz.func43, Tryz.ntmps43
  go_wp2_with (fail)
  refine HN38.out.mono ?_
  rintro e wq ⟨rfl, rfl⟩
  go_wp2_with (at_range; refine wpList_range_pl _ rfl (.tmp 20) rfl B.bo Lp rfl HMP.out HNDP.out ?_; intro w0 hrg0 hg0 hs0)
  have HB0 : Hid (Below w.heap.size w w0) := Lib.hid ((Below.refl _ _).grown hg0 (Nat.le_refl _) (fun k hk => by cases hk))
  have HRG := Lib.hid hrg0
  clear hrg0 hg0
  go_frame
  go_loopw [6] (fun v6 wr => ∃ (todo done : List (Pl × Rw)) (cnt : Nat), MapRg wr B.bo w.heap.size Lp todo cnt ∧ (done ++ todo).Perm Lp ∧ wr.ownsRow (w.heap.size + 1) 105 4 v6 (dueP was now done).length (plcells (dueP was now done)) ∧ Below w.heap.size w wr) (fun _ wr => wr.rangeLeft B.bo w.heap.size)
  case atStart => exact ⟨Lp, [], Lp.length, HRG.out, List.Perm.refl _, ⟨rfl, .inl ⟨rfl, rfl⟩⟩, HB0.out⟩
  case round =>
    obtain ⟨todo, done, cnt, hrg, hp, hown, hbl⟩ := hrel
    have HRR := Lib.hid hrg
    have HP := Lib.hid hp
    have HO := Lib.hid hown
    have HBL := Lib.hid hbl
    clear hrg hp hown hbl
    go_wp2_with (at_next; refine wpList_next_pl _ rfl _ rfl B.bo w.heap.size Lp todo cnt rfl HRR.out ?_ ?_)
    · intro ht
      have hpp : done.Perm Lp := by have := HP.out; rw [ht, List.append_nil] at this; exact this
      have HPP := Lib.hid hpp
      have HS := Lib.hid (sortp_any (w.heap.size + 1) _ u6 (dueP was now done) wr HO.out rfl (by have := dueP_len was now done; have := hpp.length_eq; omega))
      obtain ⟨S, hS⟩ : ∃ S, sortP (dueP was now Lp) = S := ⟨_, rfl⟩
      have hse : sortP (dueP was now done) = S := by rw [← hS]; exact sortP_uniq ((sortP_perm _).trans (dueP_perm hpp)) (sortP_sorted _)
      have hsl : (dueP was now done).length = S.length := by rw [← hse, (sortP_perm _).length_eq]
      rw [hse, hsl] at HS
      have HSM : Hid (∀ p ∈ S, ∃ x ∈ M.L, x.p = p) := Lib.hid (fun p hp => by
        rw [← hS] at hp
        have h1 := (sortP_perm _).mem_iff.1 hp
        obtain ⟨b, hb, rfl⟩ := List.mem_map.1 h1
        have h2 := (List.mem_filter.1 hb).1
        rw [← HLP.out] at h2
        obtain ⟨x, hx, rfl⟩ := List.mem_map.1 h2
        exact ⟨x, hx, rfl⟩)
      obtain ⟨Z, hZ⟩ : ∃ Z, (S.map fun p => (p, val1 (plain M.L) p)) = Z := ⟨_, rfl⟩
      have HPO : Hid (passO was now (plain M.L) = Z) := Lib.hid (by
        unfold passO
        rw [← dueP_plain, HLP.out, hS, hZ])
      have HZL : Hid (Z.length = S.length) := Lib.hid (by rw [← hZ, List.length_map])
      have HZI : Hid (∀ k (h : k < S.length), Z[k]? = some (S[k], val1 (plain M.L) S[k])) := Lib.hid (fun k h => by rw [← hZ, List.getElem?_map, List.getElem?_eq_getElem h]; rfl)
      have hsb : S.length ≤ 20000 := by
        rw [← hsl]
        have := dueP_len was now done
        have := hpp.length_eq
        omega
      clear hpp ht hS hse hsl hZ
      go_wp2_with (fail)
      refine HS.out.mono ?_
      rintro e w2 ⟨rfl, ho2, hk2⟩
      have HB2 : Hid (Below w.heap.size w w2) := Lib.hid (HBL.out.trans (hk2.below HBL.out.size (fun b hb => by have := (HO.out.lt b hb).1; omega)))
      obtain ⟨A, cp, rfl, hcp, hcm, hrd⟩ := own_read ho2 (by decide)
      have HRD := Lib.hid hrd
      obtain ⟨nS, hnS⟩ : ∃ nS, S.length = nS := ⟨_, rfl⟩
      rw [hnS] at HRD hcp hsb ⊢
      have HNS := Lib.hid hnS
      clear ho2 hk2 hrd hnS HS HO HBL HRR HP
      go_wp2_with (fail)
      go_loopw [8, 45] (fun v8 vi wr => ∃ k : Nat, k ≤ nS ∧ vi = .int .i64 k ∧ wr.ownsRow w2.heap.size 56 6 v8 k (outcells F M.aggAt false (Z.take k)) ∧ Below w2.heap.size w2 wr) (fun _ k _ => nS - (intOf k).toNat)
      case atStart => exact ⟨0, Nat.zero_le _, rfl, ⟨rfl, .inl ⟨rfl, rfl⟩⟩, Below.refl _ _⟩
      case round =>
        obtain ⟨k, hk, rfl, ho, hbl⟩ := hrel
        have HO := Lib.hid ho
        have HBL := Lib.hid hbl
        clear ho hbl
        by_cases hkn : k < nS
        · have hk0 : (0 : Int) ≤ (k : Int) := by omega
          have hk1 : (k : Int) < (nS : Int) := by omega
          have hkl : k < S.length := by rw [HNS.out]; exact hkn
          obtain ⟨g, rfl, hgB, hgl, _, hcs⟩ := HRD.out (by omega)
          obtain ⟨x0, x1, x2, x3⟩ := plcells_at S k hkl
          obtain ⟨x, hx, hxp⟩ := HSM.out S[k] (List.getElem_mem _)
          have HX := Lib.hid hx
          have hzx : Z[k]? = some (x.p, x.vs) := by
            rw [HZI.out k hkl, ← hxp, ← plain_vals]
            unfold valsN
            rw [valsN_of HND.out hx]
          have HTK : Hid (Z.take (k + 1) = Z.take k ++ [(x.p, x.vs)]) := Lib.hid (by
            rw [List.take_add_one, hzx]
            rfl)
          have HOKX : Hid (okT (M.aggAt x.p) x.vs) := Lib.hid (HOK.out (x.p, x.vs) (by
            rw [HNW.out, HPO.out]
            exact List.mem_of_getElem? hzx))
          rw [← hxp] at x0 x1 x2 x3
          have y0 := (HBL.out.cell (p := ⟨g, k * 4, none⟩) hgl).trans (hcs _ _ x0)
          have y1 := (HBL.out.cell (p := ⟨g, k * 4 + 1, none⟩) hgl).trans (hcs _ _ x1)
          have y2 := (HBL.out.cell (p := ⟨g, k * 4 + 2, none⟩) hgl).trans (hcs _ _ x2)
          have y3 := (HBL.out.cell (p := ⟨g, k * 4 + 3, none⟩) hgl).trans (hcs _ _ x3)
          have gl : g < wr.heap.size := Nat.lt_of_lt_of_le hgl HBL.out.size
          have HOPX := Lib.hid (HOP.out x hx)
          obtain ⟨⟨po, pk, pf, pt⟩, rr, vs⟩ := x
          dsimp only at y0 y1 y2 y3 HTK HOKX HOPX
          have hba := bl_alloc (Below.refl wr.heap.size wr) (Obj.cells #[.int .i64 po, .string pk, .int .i64 pf, .int .i64 pt] 105)
          have HBA := Lib.hid (bl_then HBL.out hba)
          have HMA := Lib.hid (H.out.below (bl_then (bl_then HB2.out HBL.out) hba))
          have HKW : Hid (Kw (S3 B) w (wr.alloc (Obj.cells #[.int .i64 po, .string pk, .int .i64 pf, .int .i64 pt] 105))) := Lib.hid (Kw.ofBelow (bl_then (bl_then HB2.out HBL.out) hba))
          have HOA := Lib.hid (own_below HO.out hba)
          have HOT : Hid (Calls Tryz.prog 45 #[.pointer (some ⟨B.bm, 0, none⟩), .agg #[.int .i64 po, .string pk, .int .i64 pf, .int .i64 pt], .bool false] (wr.alloc (Obj.cells #[.int .i64 po, .string pk, .int .i64 pf, .int .i64 pt] 105)) fun e w' => e = .returned (.agg #[.int .i64 po, .string pk, .int .i64 pf, .int .i64 pt, .string (F (M.aggAt ⟨po, pk, pf, pt⟩) vs), .bool false]) ∧ Below (wr.alloc (Obj.cells #[.int .i64 po, .string pk, .int .i64 pf, .int .i64 pt] 105)).heap.size (wr.alloc (Obj.cells #[.int .i64 po, .string pk, .int .i64 pf, .int .i64 pt] 105)) w') := Lib.hid (by
            obtain ⟨oi, hoi, hoe⟩ := HOPX.out
            refine out_any B M ⟨⟨po, pk, pf, pt⟩, rr, vs⟩ false (F (M.aggAt ⟨po, pk, pf, pt⟩) vs) _ HMA.out HX.out oi hoe hoi (fun W hb => ?_)
            have ha : (M.j.ops.getD oi zeroP).agg = M.aggAt ⟨po, pk, pf, pt⟩ := by
              unfold Md.aggAt
              rw [hoe]
              rfl
            rw [ha]
            exact HTT.out W _ rr _ (HKW.out.trans3 hb) ((HMA.out.below hb).rows _ HX.out) HOKX.out)
          obtain ⟨sx, hsx⟩ : ∃ s, F (M.aggAt ⟨po, pk, pf, pt⟩) vs = s := ⟨_, rfl⟩
          rw [hsx] at HOT
          have HSX := Lib.hid hsx
          clear hsx hcs x0 x1 x2 x3 hx hxp hba hzx
          go_wp2_with (fail)
          refine HOT.out.mono ?_
          rintro e w12 ⟨rfl, hb12⟩
          have hba := bl_alloc hb12 (Obj.cells #[.int .i64 po, .string pk, .int .i64 pf, .int .i64 pt, .string sx, .bool false] 56)
          have HB12 := Lib.hid (bl_then HBA.out hba)
          have HO12 := Lib.hid (own_below HOA.out hba)
          have HNR : Hid ((w12.alloc (Obj.cells #[.int .i64 po, .string pk, .int .i64 pf, .int .i64 pt, .string sx, .bool false] 56)).ownsRow 0 56 6 (.slice (some ⟨w12.heap.size, 0, none⟩) 1 1) 1 [.int .i64 po, .string pk, .int .i64 pf, .int .i64 pt, .string sx, .bool false]) := Lib.hid (own_one (news := [.int .i64 po, .string pk, .int .i64 pf, .int .i64 pt, .string sx, .bool false]) (heap_alloc_new w12 _) rfl (Nat.zero_le _))
          have hon : ∀ u ∈ [Value.int .i64 po, .string pk, .int .i64 pf, .int .i64 pt, .string sx, .bool false], u.oneCell' = true := by
            intro u hu
            simp only [List.mem_cons, List.not_mem_nil, or_false] at hu
            rcases hu with rfl | rfl | rfl | rfl | rfl | rfl <;> rfl
          have HON := Lib.hid hon
          have hbz : w2.heap.size ≤ (w12.alloc (Obj.cells #[.int .i64 po, .string pk, .int .i64 pf, .int .i64 pt, .string sx, .bool false] 56)).heap.size := HB12.out.size
          have hol : k + 1 ≤ 4000000 := by omega
          clear hon hb12 hba y0 y1 y2 y3 HOT
          go_wp2_with (at_builtin; refine wpList_append_row _ rfl _ _ 50 56 6 64 (.agg #[.int .i64 0, .string ⟨#[]⟩, .int .i64 0, .int .i64 0, .string ⟨#[]⟩, .bool false]) und50 i56 rfl (by decide) (by decide) rfl w2.heap.size 0 k u8 _ rfl HO12.out _ 1 _ rfl HNR.out HON.out hol hbz ?_)
          intro v' w13 ho13 hg13 hl13
          have HB13 := Lib.hid (HB12.out.grown hg13 HB12.out.size (fun b hb => (HO12.out.lt b hb).1))
          have HO13 := Lib.hid ho13
          clear ho13 hg13 hl13
          go_wp2_with (fail)
          exact ⟨⟨k + 1, by omega, by push_cast; rfl, by rw [HTK.out, outcells_app, HSX.out]; exact HO13.out, HB13.out⟩, by simp [intOf]; omega⟩
        · have hk1 : ¬ (k : Int) < (nS : Int) := by omega
          have hke : k = nS := by omega
          subst hke
          have HM3 := Lib.hid (H.out.below (bl_then HB2.out HBL.out))
          have HB3 := Lib.hid (bl_then HB2.out HBL.out)
          have c6 := HM3.out.c 6
          have ml := HM3.out.lt
          have HMP3 : Hid (MapAt wr B.bo Lp) := Lib.hid (by rw [← HLP.out]; exact HM3.out.map)
          simp only [mdcells, List.getElem?_toArray, List.getElem?_cons_zero, List.getElem?_cons_succ] at c6
          obtain ⟨W3, hW3⟩ : ∃ W3 : World, W3 = wr := ⟨_, rfl⟩
          subst hW3
          go_wp2_with (at_range; refine wpList_range_pl _ rfl (.tmp 59) rfl B.bo Lp rfl HMP3.out HNDP.out ?_; intro w4 hrg4 hg4 hs4)
          have HB4 : Hid (Kw (fun b => b = B.bo) W3 w4) := Lib.hid (Kw.ofBelow ((Below.refl _ _).grown hg4 (Nat.le_refl _) (fun k hk => by cases hk)))
          have HRG4 := Lib.hid hrg4
          clear hrg4 hg4
          go_loopw [11] (fun _ wr => ∃ (todo done Lc : List (Pl × Rw)) (cnt : Nat), MapRg wr B.bo W3.heap.size Lc todo cnt ∧ (done ++ todo).Perm Lp ∧ Lc.Perm ((done.filter fun b => !goneB M.j.late now b.1) ++ todo) ∧ Kw (fun b => b = B.bo) W3 wr) (fun _ wr => wr.rangeLeft B.bo W3.heap.size)
          case atStart => exact ⟨Lp, [], Lp, Lp.length, HRG4.out, List.Perm.refl _, List.Perm.refl _, HB4.out⟩
          case round =>
            obtain ⟨todo, done, Lc, cnt, hrg, hp, hlc, hkw⟩ := hrel
            have HRR := Lib.hid hrg
            have HP := Lib.hid hp
            have HLC := Lib.hid hlc
            have HK := Lib.hid hkw
            clear hrg hp hlc hkw
            go_wp2_with (at_next; refine wpList_next_pl _ rfl _ rfl B.bo W3.heap.size Lc todo cnt rfl HRR.out ?_ ?_)
            · intro ht
              have hpp : done.Perm Lp := by have := HP.out; rw [ht, List.append_nil] at this; exact this
              have HLE : Hid (Lc.Perm ((M.L.filter fun x => !goneB M.j.late now x.p).map fun x : Pn => (x.p, x.r))) := Lib.hid (by
                have h1 := HLC.out
                rw [ht, List.append_nil] at h1
                have h2 := h1.trans (hpp.filter _)
                rw [← HLP.out] at h2
                unfold Md.Lp at h2
                rw [List.filter_map] at h2
                exact h2)
              clear ht hpp
              go_wp2_with (fail)
              go_ret
              have hm5 := HM3.out.remap HK.out (L' := M.L.filter fun x => !goneB M.j.late now x.p) (HRR.out.map.perm HLE.out.symm) (fun x hx => (List.mem_filter.1 hx).1)
              refine ⟨_, _, rfl, ?_, ?_, hm5, (Kw.ofBelow HB3.out).trans HK.out⟩
              · rw [HNW.out, HPO.out]
                have h1 := own_kwB HO.out HK.out (not_map HM3.out.mapc)
                have hzl : Z.length = k := by rw [HZL.out, HNS.out]
                have h2 : Z.take k = Z := by rw [← hzl, List.take_length]
                rw [h2] at h1
                rw [hzl]
                exact own_weaken h1 HB2.out.size
              · rw [HNW.out]
                unfold plain passL
                rw [List.filter_map]
                rfl
            · intro pp rr todo' w1 cnt1 hpb hrg1 hlt hg1 hs1 hen
              have hkw1 : Kw (fun b => b = B.bo) W3 w1 := HK.out.grownNew hg1 (fun b hb => by cases hb; exact Nat.le_refl _)
              have HPB : Hid ((done ++ [(pp, rr)] ++ todo').Perm Lp) := Lib.hid (by
                rw [List.append_assoc]
                exact (List.Perm.append_left done hpb.symm).trans HP.out)
              have HLB : Hid (Lc.Perm ((done.filter fun b => !goneB M.j.late now b.1) ++ ((pp, rr) :: todo'))) := Lib.hid (HLC.out.trans (List.Perm.append_left _ hpb))
              have HTN : Hid (∀ c ∈ todo', c.1 ≠ pp) := Lib.hid (fun c hc e => by
                obtain ⟨_, _, _, h3, _⟩ := HRR.out
                have h4 := (hpb.map (·.1)).nodup_iff.1 h3
                rw [List.map_cons, List.nodup_cons] at h4
                exact h4.1 (List.mem_map.2 ⟨c, hc, e⟩))
              have HMS : Hid (∀ w2 Lc2 cnt2, MapRg w2 B.bo W3.heap.size Lc2 todo' cnt2 → cnt2 ≤ cnt1 → w2.rangeLeft B.bo W3.heap.size < wr.rangeLeft B.bo W3.heap.size) := Lib.hid (fun w2 L2 c2 h2 hc => by
                rw [h2.left_eq, HRR.out.left_eq]; omega)
              have hbt := HBP.out (pp, rr) (HPB.out.mem_iff.1 (by simp))
              have HOKP := Lib.hid (hrg1.1 (pp, rr) (by
                have := HLB.out.mem_iff (a := (pp, rr))
                exact this.2 (by simp)))
              have hfl : (done ++ [(pp, rr)]).filter (fun b => !goneB M.j.late now b.1) = (done.filter fun b => !goneB M.j.late now b.1) ++ (if goneB M.j.late now pp then [] else [(pp, rr)]) := by
                rw [List.filter_append]
                congr 1
                rw [List.filter_cons]
                cases goneB M.j.late now pp <;> rfl
              have HFL := Lib.hid hfl
              have hba := bl_alloc (Below.refl w1.heap.size w1) (Obj.cells #[.int .i64 pp.op, .string pp.key, .int .i64 pp.f, .int .i64 pp.t] 105)
              have HKA := Lib.hid (hkw1.trans3 hba)
              have HRA := Lib.hid (hrg1.below hba)
              have HNA := Lib.hid (heap_alloc_new w1 (Obj.cells #[.int .i64 pp.op, .string pp.key, .int .i64 pp.f, .int .i64 pp.t] 105))
              have HMD := Lib.hid (HKA.out.block _ HM3.out.lt (fun e => by
                obtain ⟨es, clock, hmm⟩ := HM3.out.mapc
                have := HM3.out.md
                rw [e, hmm] at this
                cases this) |>.trans HM3.out.md)
              have HGN := Lib.hid (gone_md B M pp.f pp.t now _ HMD.out HLA.out hbt)
              obtain ⟨o, k2, f, t⟩ := pp
              unfold plV at hen
              unfold ptrV at HGN
              dsimp only at hen hbt HGN HKA HRA HNA HMD
              have hsz1 : W3.heap.size < w1.heap.size := hrg1.lt
              clear hkw1 hba hpb hrg1 hlt hg1 hs1 hfl c6 ml
              go_wp2_with (fail)
              refine HGN.out.mono ?_
              rintro e w2 ⟨rfl, hb2⟩
              have HK2 := Lib.hid (HKA.out.trans3 hb2)
              have HR2 := Lib.hid (HRA.out.below hb2)
              have HN2 := Lib.hid ((hb2.block _ (Array.getElem?_eq_some_iff.1 HNA.out).1).trans HNA.out)
              have HMD2 := Lib.hid ((hb2.block _ (Array.getElem?_eq_some_iff.1 HMD.out).1).trans HMD.out)
              clear hb2 HGN
              by_cases hgn : t - 1 + M.j.late ≤ now
              · rw [decide_eq_true hgn]
                have hgb : goneB M.j.late now ⟨o, k2, f, t⟩ = true := by unfold goneB; simpa using hgn
                have HF2 : Hid ((done ++ [((⟨o, k2, f, t⟩ : Pl), rr)]).filter (fun b => !goneB M.j.late now b.1) = done.filter fun b => !goneB M.j.late now b.1) := Lib.hid (by rw [HFL.out, hgb, if_pos rfl, List.append_nil])
                clear hgb hgn
                go_wp2_with (fail)
                have m6 := ext_cell (v := .map (some B.bo)) (cell_of HMD2.out 6)
                have ml := (Array.getElem?_eq_some_iff.1 HMD2.out).1
                have p0 := ext_cell (v := .int .i64 o) (cell_of HN2.out 0)
                have p1 := ext_cell (v := .string k2) (cell_of HN2.out 1)
                have p2 := ext_cell (v := .int .i64 f) (cell_of HN2.out 2)
                have p3 := ext_cell (v := .int .i64 t) (cell_of HN2.out 3)
                have pl := (Array.getElem?_eq_some_iff.1 HN2.out).1
                refine wp_region_quiet_tail (C := fun w' => ∃ x : Ext w2, w' = x.val) 5 (by kernel_rfl) (by kernel_rfl) ⟨⟨w2.drew, (Below.refl _ _).drew⟩, rfl⟩ ?_
                simp only [List.take_succ_cons, List.take_zero, List.drop_succ_cons, List.drop_zero]
                repeat (go_big_quiet_step (fail))
                refine wpQuiet_nil ?_
                rintro w10 ⟨⟨_, hb10⟩, rfl⟩
                have hperm : Lc.Perm ((⟨o, k2, f, t⟩, rr) :: ((done.filter fun b => !goneB M.j.late now b.1) ++ todo')) := HLB.out.trans List.perm_middle
                obtain ⟨w11, cnt2, hrun, hrg11, hle, hturn⟩ := (HR2.out.below hb10).drop (⟨o, k2, f, t⟩, rr) _ hperm HTN.out 0
                have HR11 := Lib.hid hrg11
                have HK11 : Hid (Kw (fun b => b = B.bo) W3 w11) := Lib.hid ((HK2.out.trans3 hb10).trans (turned_kw hturn rfl))
                have HRUN := Lib.hid hrun
                unfold plV at HRUN
                dsimp only at HRUN
                clear hrun hrg11 hturn hb10 m6 ml p0 p1 p2 p3 pl hperm
                go_wp2_with (refine wpList_delete_run _ rfl _ _ rfl _ _ rfl rfl w11 HRUN.out ?_)
                (try go_frame)
                refine ⟨?_, HMS.out _ _ _ HR11.out hle⟩
                (repeat apply Exists.intro)
                exact ⟨⟨todo', done ++ [(⟨o, k2, f, t⟩, rr)], _, cnt2, HR11.out, HPB.out, by rw [HF2.out], HK11.out⟩, rfl⟩
              · rw [decide_eq_false hgn]
                have hgb : goneB M.j.late now ⟨o, k2, f, t⟩ = false := by unfold goneB; simpa using hgn
                have HF2 : Hid (Lc.Perm (((done ++ [((⟨o, k2, f, t⟩ : Pl), rr)]).filter fun b => !goneB M.j.late now b.1) ++ todo')) := Lib.hid (by
                  rw [HFL.out, hgb, if_neg (by decide), List.append_assoc]
                  exact HLB.out)
                clear hgb hgn
                go_wp2_with (fail)
                exact ⟨⟨todo', done ++ [(⟨o, k2, f, t⟩, rr)], Lc, cnt1, HR2.out, HPB.out, HF2.out, HK2.out⟩, HMS.out _ _ _ HR2.out (Nat.le_refl _)⟩
    · intro pp rr todo' w1 cnt1 hpb hrg1 hlt hg1 hs1 hen
      have hb1 : Below w.heap.size w w1 := HBL.out.grown hg1 HBL.out.size (fun k hk => by cases hk; exact Nat.le_refl _)
      have HB1 := Lib.hid hb1
      have HO1 : Hid (w1.ownsRow (w.heap.size + 1) 105 4 u6 (dueP was now done).length (plcells (dueP was now done))) := Lib.hid (own_kwB HO.out ((Kw.refl (fun b => b = w.heap.size) wr).grown hg1 (fun k hk => by cases hk; rfl)) (fun g cur hg e => by
        obtain ⟨a, b, c, d, hi⟩ := HRR.out.iter
        subst e
        rw [hi] at hg
        cases hg))
      have HRG1 := Lib.hid hrg1
      have HPB : Hid ((done ++ [(pp, rr)] ++ todo').Perm Lp) := Lib.hid (by
        rw [List.append_assoc]
        exact (List.Perm.append_left done hpb.symm).trans HP.out)
      have HMS : Hid (∀ w2 cnt2, MapRg w2 B.bo w.heap.size Lp todo' cnt2 → cnt2 ≤ cnt1 → w2.rangeLeft B.bo w.heap.size < wr.rangeLeft B.bo w.heap.size) := Lib.hid (fun w2 c2 h2 hc => by
        rw [h2.left_eq, HRR.out.left_eq]; omega)
      have HSN := Lib.hid (dueP_snoc was now done pp rr)
      have hbt := HBP.out (pp, rr) (HPB.out.mem_iff.1 (by simp))
      obtain ⟨o, k, f, t⟩ := pp
      unfold plV at hen
      dsimp only at hen HSN hbt
      have hsz1 : w.heap.size < w1.heap.size := HRG1.out.lt
      clear hb1 hrg1 hpb hlt hg1 hs1
      have HA : Hid (Below w.heap.size w (w1.alloc (Obj.cells #[.int .i64 o, .string k, .int .i64 f, .int .i64 t] 105))) := Lib.hid (bl_alloc HB1.out _)
      have HRA : Hid (MapRg (w1.alloc (Obj.cells #[.int .i64 o, .string k, .int .i64 f, .int .i64 t] 105)) B.bo w.heap.size Lp todo' cnt1) := Lib.hid (HRG1.out.below (bl_alloc (Below.refl _ _) _))
      have HOA := Lib.hid (own_below HO1.out (bl_alloc (Below.refl w1.heap.size w1) (Obj.cells #[.int .i64 o, .string k, .int .i64 f, .int .i64 t] 105)))
      have HNA := Lib.hid (heap_alloc_new w1 (Obj.cells #[.int .i64 o, .string k, .int .i64 f, .int .i64 t] 105))
      have HDU := Lib.hid (fun W x => due_any f t x W hbt)
      by_cases h1 : t - 1 ≤ now
      · by_cases h2 : t - 1 ≤ was
        · have HSN2 : Hid (dueP was now (done ++ [(⟨o, k, f, t⟩, rr)]) = dueP was now done) := Lib.hid (by rw [HSN.out, dueB_tf (p := ⟨o, k, f, t⟩) h2, if_neg (by decide), List.append_nil])
          go_wp2_with (fail)
          refine (HDU.out _ now).mono ?_
          rintro e w2 ⟨rfl, hb2⟩
          rw [decide_eq_true h1]
          have hn2 := (hb2.block _ (Array.getElem?_eq_some_iff.1 HNA.out).1).trans HNA.out
          have x2 := cell_of hn2 2
          have x3 := cell_of hn2 3
          have xl := (Array.getElem?_eq_some_iff.1 hn2).1
          simp only [List.getElem?_toArray, List.getElem?_cons_zero, List.getElem?_cons_succ] at x2 x3
          have HB2 := Lib.hid (bl_then HA.out hb2)
          have HR2 := Lib.hid (HRA.out.below hb2)
          have HO2 := Lib.hid (own_below HOA.out hb2)
          have HN2 := Lib.hid hn2
          clear hb2 hn2
          go_wp2_with (fail)
          refine (HDU.out _ was).mono ?_
          rintro e w3 ⟨rfl, hb3⟩
          have HB3 := Lib.hid (bl_then HB2.out hb3)
          have HR3 := Lib.hid (HR2.out.below hb3)
          have HO3 := Lib.hid (own_below HO2.out hb3)
          have HN3 := Lib.hid ((hb3.block _ xl).trans HN2.out)
          clear hb3 x2 x3 xl
          rw [decide_eq_true h2]
          go_wp2_with (fail)
          exact ⟨⟨todo', done ++ [(⟨o, k, f, t⟩, rr)], cnt1, HR3.out, HPB.out, by rw [HSN2.out]; exact HO3.out, HB3.out⟩, HMS.out _ _ HR3.out (Nat.le_refl _)⟩
        · have HSN2 : Hid (dueP was now (done ++ [(⟨o, k, f, t⟩, rr)]) = dueP was now done ++ [⟨o, k, f, t⟩]) := Lib.hid (by rw [HSN.out, dueB_tt (p := ⟨o, k, f, t⟩) h1 h2, if_pos rfl])
          go_wp2_with (fail)
          refine (HDU.out _ now).mono ?_
          rintro e w2 ⟨rfl, hb2⟩
          rw [decide_eq_true h1]
          have hn2 := (hb2.block _ (Array.getElem?_eq_some_iff.1 HNA.out).1).trans HNA.out
          have x2 := cell_of hn2 2
          have x3 := cell_of hn2 3
          have xl := (Array.getElem?_eq_some_iff.1 hn2).1
          simp only [List.getElem?_toArray, List.getElem?_cons_zero, List.getElem?_cons_succ] at x2 x3
          have HB2 := Lib.hid (bl_then HA.out hb2)
          have HR2 := Lib.hid (HRA.out.below hb2)
          have HO2 := Lib.hid (own_below HOA.out hb2)
          have HN2 := Lib.hid hn2
          clear hb2 hn2
          go_wp2_with (fail)
          refine (HDU.out _ was).mono ?_
          rintro e w3 ⟨rfl, hb3⟩
          have HB3 := Lib.hid (bl_then HB2.out hb3)
          have HR3 := Lib.hid (HR2.out.below hb3)
          have HO3 := Lib.hid (own_below HO2.out hb3)
          have HN3 := Lib.hid ((hb3.block _ xl).trans HN2.out)
          clear hb3 x2 x3 xl
          rw [decide_eq_false (show ¬ t - 1 ≤ was by omega)]
          have x0 := cell_of HN3.out 0
          have x1 := cell_of HN3.out 1
          have x2 := cell_of HN3.out 2
          have x3 := cell_of HN3.out 3
          have xl := (Array.getElem?_eq_some_iff.1 HN3.out).1
          simp only [List.getElem?_toArray, List.getElem?_cons_zero, List.getElem?_cons_succ] at x0 x1 x2 x3
          have hba := bl_alloc (Below.refl w3.heap.size w3) (Obj.cells #[.int .i64 o, .string k, .int .i64 f, .int .i64 t] 105)
          have HB4 := Lib.hid (bl_then HB3.out hba)
          have HR4 := Lib.hid (HR3.out.below hba)
          have HO4 := Lib.hid (own_below HO3.out hba)
          have HNR : Hid ((w3.alloc (Obj.cells #[.int .i64 o, .string k, .int .i64 f, .int .i64 t] 105)).ownsRow 0 105 4 (.slice (some ⟨w3.heap.size, 0, none⟩) 1 1) 1 [.int .i64 o, .string k, .int .i64 f, .int .i64 t]) := Lib.hid (own_one (news := [.int .i64 o, .string k, .int .i64 f, .int .i64 t]) (heap_alloc_new w3 _) rfl (Nat.zero_le _))
          have hon : ∀ q ∈ [Value.int .i64 o, .string k, .int .i64 f, .int .i64 t], q.oneCell' = true := by
            intro q hq
            simp only [List.mem_cons, List.not_mem_nil, or_false] at hq
            rcases hq with rfl | rfl | rfl | rfl <;> rfl
          have HON := Lib.hid hon
          have hbz : w.heap.size + 1 ≤ (w3.alloc (Obj.cells #[.int .i64 o, .string k, .int .i64 f, .int .i64 t] 105)).heap.size := by have := HB4.out.size; have := HR4.out.lt; omega
          have hdl : (dueP was now done).length + 1 ≤ 4000000 := by
            have h1 := dueP_len was now done
            have h2 := HPB.out.length_eq
            rw [List.length_append, List.length_append] at h2
            omega
          obtain ⟨nd, hnd⟩ : ∃ nd, (dueP was now done).length = nd := ⟨_, rfl⟩
          rw [hnd] at hdl HO4
          have HNDL := Lib.hid hnd
          clear hnd hon hba
          go_wp2_with (at_builtin; refine wpList_append_row _ rfl _ _ 138 105 4 40 (.agg #[.int .i64 0, .string ⟨#[]⟩, .int .i64 0, .int .i64 0]) und138 i105 rfl (by decide) (by decide) rfl (w.heap.size + 1) 0 nd u6 _ rfl HO4.out _ 1 _ rfl HNR.out HON.out hdl hbz ?_)
          intro v' w5 ho5 hg5 hl5
          have HR5 := Lib.hid (HR4.out.kw ((Kw.refl (fun b => u6.ownBlock = some b) _).grown hg5 (fun k hk => hk)) (fun hs => by
            rcases HO4.out.2 with ⟨e0, _⟩ | ⟨g, c, cur, e0, hB, hg, _⟩
            · rw [e0] at hs; cases hs
            · rw [e0] at hs
              injection hs with hs
              obtain ⟨_, D, ho, _⟩ := HR4.out.map
              obtain ⟨es, clock, hm, _⟩ := ho
              rw [← hs, hg] at hm
              cases hm) (fun hs => by have := (HO4.out.lt _ hs).1; omega))
          have HB5 := Lib.hid (HB4.out.grown hg5 HB4.out.size (fun b hb => by have := (HO4.out.lt b hb).1; omega))
          have HO5 := Lib.hid ho5
          clear ho5 hg5 hl5
          go_wp2_with (fail)
          exact ⟨⟨todo', done ++ [(⟨o, k, f, t⟩, rr)], cnt1, HR5.out, HPB.out, by rw [HSN2.out, plcells_app, List.length_append, HNDL.out]; exact HO5.out, HB5.out⟩, HMS.out _ _ HR5.out (Nat.le_refl _)⟩
      · have HSN2 : Hid (dueP was now (done ++ [(⟨o, k, f, t⟩, rr)]) = dueP was now done) := Lib.hid (by rw [HSN.out, dueB_f (p := ⟨o, k, f, t⟩) h1, if_neg (by decide), List.append_nil])
        go_wp2_with (fail)
        refine (HDU.out _ now).mono ?_
        rintro e w2 ⟨rfl, hb2⟩
        rw [decide_eq_false (show ¬ t - 1 ≤ now by omega)]
        have HB2 := Lib.hid (bl_then HA.out hb2)
        have HR2 := Lib.hid (HRA.out.below hb2)
        have HO2 := Lib.hid (own_below HOA.out hb2)
        clear hb2 h1
        go_wp2_with (fail)
        exact ⟨⟨todo', done ++ [(⟨o, k, f, t⟩, rr)], cnt1, HR2.out, HPB.out, by rw [HSN2.out]; exact HO2.out, HB2.out⟩, HMS.out _ _ HR2.out (Nat.le_refl _)⟩
end Go.Proofs.YtfojblbnhapedaaGreatDoor
