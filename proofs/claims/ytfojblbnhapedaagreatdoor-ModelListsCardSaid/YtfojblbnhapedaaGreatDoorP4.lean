/- Contract of model.record. Conditions: as each theorem states them. -/
import Derived.Test.YtfojblbnhapedaaGreatDoorP3
namespace Go.Proofs.YtfojblbnhapedaaGreatDoor
open Go.RowKit Go.Maps
set_option linter.unusedVariables false
set_option linter.unusedSimpArgs false

/-- What record answers and leaves. -/
def RecR (w : World) (B : Lo) (M : Md) (F : Int → List Int → ByteArray) (l : List Chg) (was x : Int) (dr : Nat) (r : Ending) (w' : World) : Prop :=
  if 1024 < (M.L.length : Int) + cntC l then r = .returned (.tuple #[.slice none 0 0, .int .i64 3]) ∧ Below w.heap.size w w'
  else ∃ v L', r = .returned (.tuple #[v, .int .i64 0]) ∧ w'.ownsRow w.heap.size 56 6 v (recF was x l (plain M.L)).2.length (outcells F M.aggAt true (recF was x l (plain M.L)).2) ∧ plain L' = (recF was x l (plain M.L)).1 ∧ MdAt w' B { M with L := L', dr := M.dr + dr } ∧ Kw (fun b => b = B.bm ∨ b = B.bo) w w'
theorem MdAt.setDr {w : World} {B : Lo} {M : Md} (h : MdAt w B M) (x : Int) : MdAt (w.setCell ⟨B.bm, 7, none⟩ (.int .i64 x)) B { M with dr := x } := by
  have hk : Kw (fun b => b = B.bm) w (w.setCell ⟨B.bm, 7, none⟩ (.int .i64 x)) := (Kw.refl (fun b => b = B.bm) w).setCell (p := ⟨B.bm, 7, none⟩) rfl _
  have h2 := set_heap (i := 7) (v := .int .i64 x) h.md
  obtain ⟨es, clock, hm⟩ := h.mapc
  refine ⟨h2, (hk.block _ h.mks.lt (fun e => ?_)).trans h.mks, h.map.kw hk (fun e => ?_), h.ops.kw hk (fun a ha => (h.opa a ha).2.1), fun y hy => (h.rows y hy).kw hk (fun e => ?_), fun a ha => ⟨Nat.lt_of_lt_of_le (h.opa a ha).1 hk.size, (h.opa a ha).2⟩⟩
  · have h3 := h.mks
    unfold MkAt at h3
    rw [e, h.md] at h3
    injection h3 with h3
    injection h3 with _ h3
    exact absurd h3 (by decide)
  · rw [e, h.md] at hm
    cases hm
  · obtain ⟨cur, h3⟩ := (h.rows y hy).heap
    rw [e, h.md] at h3
    injection h3 with h3
    injection h3 with _ h3
    exact absurd h3 (by decide)
set_option maxRecDepth 100000 in
set_option maxHeartbeats 16000000 in
theorem record_any (B : Lo) (M : Md) (e : Ev) (was : Int) (w : World) (F : Int → List Int → ByteArray) (okT : Int → List Int → Prop) (l : List Chg) (dr : Nat) (h : MdAt w B M) (hnd : ND (plain M.L)) (hlen : M.L.length ≤ 1024) (htot : tot (plain M.L) ≤ 1000000) (hll : l.length ≤ 10000) (hdr : dr ≤ 10000) (hmdr : 0 ≤ M.dr ∧ M.dr ≤ 1000000000000)
    (hg : ∀ c ∈ l, GoodC M c) (HT : ToldOk w B F okT) (hok : ¬ 1024 < (M.L.length : Int) + cntC l → ∀ o ∈ (recF was e.v l (plain M.L)).2, okT (M.aggAt o.1) o.2)
    (HCH : ∀ W, Below w.heap.size w W → Calls Tryz.prog 61 #[ptrV B.bm, evV e, .int .i64 was] W fun r w' => ∃ v xs, r = .returned (.tuple #[v, .int .i64 dr]) ∧ w'.ownsRow W.heap.size 134 5 v l.length xs ∧ ChsAt w' xs l ∧ Below W.heap.size W w') :
    Calls Tryz.prog 39 #[ptrV B.bm, evV e, .int .i64 was] w (RecR w B M F l was e.v dr) := by
  have H := Lib.hid h
  have HND := Lib.hid hnd
  have HG := Lib.hid hg
  have HTT := Lib.hid HT
  have HOK0 := Lib.hid hok
  have HB : Hid (Below w.heap.size w (w.alloc (Obj.cells #[.int .i64 e.k, .int .i64 e.src, .int .i64 e.t, .string e.key, .int .i64 e.v] 26))) := Lib.hid (bl_alloc (Below.refl _ _) _)
  have HN := Lib.hid (heap_alloc_new w (Obj.cells #[.int .i64 e.k, .int .i64 e.src, .int .i64 e.t, .string e.key, .int .i64 e.v] 26))
  have HC := Lib.hid (HCH _ HB.out)
  have HCW : Hid (∀ c ∈ l, c.ws.length ≤ 2000) := Lib.hid (fun c hc => (hg c hc).len)
  obtain ⟨nl, hnl⟩ : ∃ nl, l.length = nl := ⟨_, rfl⟩
  have HNL := Lib.hid hnl
  obtain ⟨nL, hnL⟩ : ∃ nL, M.L.length = nL := ⟨_, rfl⟩
  have HLN := Lib.hid hnL
  rw [hnl] at HC hll
  rw [hnL] at hlen
  obtain ⟨k, src, t, key, v⟩ := e
  unfold ptrV evV at *
  dsimp only at *
  clear h hnd hg HT hok HCH hnl hnL
  go_enter Tryz.func39, Tryz.ntmps39
  go_wp2_with (fail)
  refine HC.out.mono ?_
  rintro r w2 ⟨vl, xs, rfl, hown, hch, hb2⟩
  have hown : w2.ownsRow w.heap.size 134 5 vl nl xs := own_weaken hown (by simp)
  obtain ⟨A, cp, rfl, hcp, hcm, hrd⟩ := own_read hown (by decide)
  have HRD := Lib.hid hrd
  have HCS := Lib.hid hch
  have HB2 := Lib.hid (bl_then HB.out hb2)
  have HN2 := Lib.hid ((hb2.block _ (Array.getElem?_eq_some_iff.1 HN.out).1).trans HN.out)
  have hm2 := H.out.below HB2.out
  have c6 := hm2.c 6
  have ml := hm2.lt
  have hlm := hm2.map.len 3
  rw [List.length_map, HLN.out] at hlm
  simp only [mdcells, List.getElem?_toArray, List.getElem?_cons_zero, List.getElem?_cons_succ] at c6
  clear hown hch hb2 hrd hm2 HC
  go_wp2_with (fail)
  go_loopw [10, 34] (fun v10 vi wr => ∃ i : Nat, i ≤ nl ∧ vi = .int .i64 i ∧ v10 = .int .i64 ((nL : Int) + cntC (l.take i)) ∧ Below w2.heap.size w2 wr) (fun _ i _ => nl - (intOf i).toNat)
  case atStart => exact ⟨0, Nat.zero_le _, rfl, by rw [show cntC (l.take 0) = 0 from rfl, Int.add_zero], Below.refl _ _⟩
  case round =>
    obtain ⟨i, hi, rfl, rfl, hbl⟩ := hrel
    have HBL := Lib.hid hbl
    clear hbl
    by_cases hin : i < nl
    · have hi0 : (0 : Int) ≤ (i : Int) := by omega
      have hi1 : (i : Int) < (nl : Int) := by omega
      have hil : i < l.length := by rw [HNL.out]; exact hin
      obtain ⟨g, rfl, hgB, hgl, ⟨cur, hcur⟩, hcs⟩ := HRD.out (by omega)
      obtain ⟨ve, x0, x1, x2, x3, x4, hwn⟩ := ChsAt.at_ l xs HCS.out i hil
      obtain ⟨A2, c2, rfl, hwr⟩ := WinsAt.at_ hwn
      have HTK := Lib.hid (cntC_take l i hil)
      have hbd := cntC_bd l HCW.out i (by rw [HNL.out]; omega)
      have hlc := HCW.out l[i] (List.getElem_mem _)
      obtain ⟨c, hc⟩ : ∃ c, l[i] = c := ⟨_, rfl⟩
      rw [hc] at x0 x1 x2 x3 x4 HTK hlc
      obtain ⟨q, hq⟩ : ∃ q, cntC (l.take i) = q := ⟨_, rfl⟩
      rw [hq] at HTK hbd ⊢
      have y0 := (HBL.out.cell (p := ⟨g, i * 5, none⟩) hgl).trans (hcs _ _ x0)
      have y1 := (HBL.out.cell (p := ⟨g, i * 5 + 1, none⟩) hgl).trans (hcs _ _ x1)
      have y2 := (HBL.out.cell (p := ⟨g, i * 5 + 2, none⟩) hgl).trans (hcs _ _ x2)
      have y3 := (HBL.out.cell (p := ⟨g, i * 5 + 3, none⟩) hgl).trans (hcs _ _ x3)
      have y4 := (HBL.out.cell (p := ⟨g, i * 5 + 4, none⟩) hgl).trans (hcs _ _ x4)
      have gl : g < wr.heap.size := Nat.lt_of_lt_of_le hgl HBL.out.size
      obtain ⟨⟨po, pk, pf, pt⟩, cws⟩ := c
      dsimp only at y0 y1 y2 y3 y4 HTK hlc
      obtain ⟨nw, hnw⟩ : ∃ nw, cws.length = nw := ⟨_, rfl⟩
      rw [hnw] at y4 hlc HTK
      clear hcs x0 x1 x2 x3 x4 hwn hwr hcur hc hq hnw
      have HB3 := Lib.hid (bl_then HBL.out (bl_alloc (Below.refl wr.heap.size wr) (Obj.cells #[.int .i64 po, .string pk, .int .i64 pf, .int .i64 pt, .slice A2 nw c2] 134)))
      have e1 : IntKind.i64.wrap (1 - (nw : Int)) = 1 - (nw : Int) := by rw [IntKind.wrap_i64]; omega
      have e2 : IntKind.i64.wrap ((nL : Int) + q + (1 - (nw : Int))) = (nL : Int) + q + (1 - (nw : Int)) := by rw [IntKind.wrap_i64]; omega
      go_wp2_with (fail)
      exact ⟨⟨i + 1, by omega, by push_cast; rfl, by rw [HTK.out, Int.add_assoc], HB3.out⟩, by simp [intOf]; omega⟩
    · have hi1 : ¬ (i : Int) < (nl : Int) := by omega
      have hie : i = nl := by omega
      have hbd := cntC_bd l HCW.out nl (by rw [HNL.out]; omega)
      have hct : cntC (l.take i) = cntC l := by rw [hie, ← HNL.out, List.take_length]
      have hct2 : cntC (l.take nl) = cntC l := by rw [← HNL.out, List.take_length]
      rw [hct2] at hbd
      rw [hct]
      obtain ⟨q, hq⟩ : ∃ q, cntC l = q := ⟨_, rfl⟩
      have HQ := Lib.hid hq
      rw [hq] at hbd ⊢
      clear hct hct2 hq
      subst hie
      by_cases hgt : 1024 < (nL : Int) + q
      · go_wp2_with (fail)
        go_ret2
        unfold RecR
        rw [if_pos (by rw [HQ.out, HLN.out]; exact hgt)]
        exact ⟨rfl, bl_then HB2.out HBL.out⟩
      · have hle : (nL : Int) + q ≤ 1024 := by omega
        have HOK := Lib.hid (HOK0.out (by rw [HQ.out, HLN.out]; omega))
        clear hgt
        have HW2 : Hid (Below w.heap.size w wr) := Lib.hid (bl_then HB2.out HBL.out)
        have HNR := Lib.hid ((HBL.out.block _ (Array.getElem?_eq_some_iff.1 HN2.out).1).trans HN2.out)
        have HCR : Hid (ChsAt wr xs l) := Lib.hid (ChsAt.kw (S := fun _ => False) (Kw.ofBelow HBL.out) (fun _ _ _ h => h) l xs HCS.out)
        have HRR : Hid (0 < i → ∃ g, A = some ⟨g, 0, none⟩ ∧ w.heap.size ≤ g ∧ g < wr.heap.size ∧ (∃ cur, wr.heap[g]? = some (Obj.cells cur 134)) ∧ ∀ (j : Nat) u, xs[j]? = some u → wr.cell? ⟨g, j, none⟩ = some u) := Lib.hid (fun h0 => by
          obtain ⟨g, e, h1, h2, ⟨cur, h3⟩, h4⟩ := HRD.out h0
          exact ⟨g, e, h1, Nat.lt_of_lt_of_le h2 HBL.out.size, ⟨cur, (HBL.out.block _ h2).trans h3⟩, fun j u hu => (HBL.out.cell (p := ⟨g, j, none⟩) h2).trans (h4 j u hu)⟩)
        have HMR := Lib.hid (H.out.below HW2.out)
        clear HRD HCS HN2 HBL HB2
        go_wp2_with (fail)
        generalize hW0 : wr = W0 at *
        clear hW0
        go_loopw [13, 49] (fun v13 vi wx => ∃ (j : Nat) (L' : List Pn), j ≤ i ∧ vi = .int .i64 j ∧ plain L' = (recF was v (l.take j) (plain M.L)).1 ∧ MdAt wx B { M with L := L' } ∧ wx.ownsRow W0.heap.size 56 6 v13 (recF was v (l.take j) (plain M.L)).2.length (outcells F M.aggAt true (recF was v (l.take j) (plain M.L)).2) ∧ Kw (fun b => b = B.bo) W0 wx) (fun _ j _ => i - (intOf j).toNat)
        case atStart => exact ⟨0, M.L, Nat.zero_le _, rfl, rfl, HMR.out, ⟨rfl, .inl ⟨rfl, rfl⟩⟩, Kw.refl _ _⟩
        case round =>
          obtain ⟨j, L', hj, rfl, hpl, hmd, hout, hkw⟩ := hrel
          have HPL := Lib.hid hpl
          have HMD := Lib.hid hmd
          have HO := Lib.hid hout
          have HK := Lib.hid hkw
          clear hpl hmd hout hkw
          by_cases hjn : j < i
          · have hj0 : (0 : Int) ≤ (j : Int) := by omega
            have hj1 : (j : Int) < (i : Int) := by omega
            have hjl : j < l.length := by rw [HNL.out]; exact hjn
            obtain ⟨g, rfl, hgB, hgl, ⟨cur, hcur⟩, hcs⟩ := HRR.out (by omega)
            have hmc := HMR.out.mapc
            have hgbo : g ≠ B.bo := fun e => by
              obtain ⟨es, clock, hm⟩ := hmc
              rw [← e, hcur] at hm
              cases hm
            obtain ⟨ve, x0, x1, x2, x3, x4, hwn⟩ := ChsAt.at_ l xs (HCR.out.kwBo hmc HK.out) j hjl
            obtain ⟨A2, c2, rfl, hwr⟩ := WinsAt.at_ hwn
            have HWR := Lib.hid hwr
            have HGC := Lib.hid (HG.out l[j] (List.getElem_mem _))
            have HRT := Lib.hid (recF_take was v l (plain M.L) j hjl)
            have HRM := Lib.hid (recF_mono was v l (plain M.L) (j + 1))
            have HTO := Lib.hid (recF_tot was v l (plain M.L) j (by omega))
            have HLE := Lib.hid (recF_len was v l (plain M.L) j (by omega))
            have HOL := Lib.hid (recF_outs was v l (plain M.L) j (by omega))
            have HNDJ := Lib.hid (nd_rec was v l HND.out j (by omega))
            rw [← HPL.out] at HTO HLE HNDJ
            obtain ⟨c, hc⟩ : ∃ c, l[j] = c := ⟨_, rfl⟩
            rw [hc] at x0 x1 x2 x3 x4 HGC HRT HWR
            have y0 := (HK.out.cell (i := j * 5) hgl hgbo).trans (hcs _ _ x0)
            have y1 := (HK.out.cell (i := j * 5 + 1) hgl hgbo).trans (hcs _ _ x1)
            have y2 := (HK.out.cell (i := j * 5 + 2) hgl hgbo).trans (hcs _ _ x2)
            have y3 := (HK.out.cell (i := j * 5 + 3) hgl hgbo).trans (hcs _ _ x3)
            have y4 := (HK.out.cell (i := j * 5 + 4) hgl hgbo).trans (hcs _ _ x4)
            have gl : g < wr.heap.size := Nat.lt_of_lt_of_le hgl HK.out.size
            obtain ⟨⟨po, pk, pf, pt⟩, cws⟩ := c
            dsimp only at y0 y1 y2 y3 y4 HWR
            obtain ⟨nw, hnw⟩ : ∃ nw, cws.length = nw := ⟨_, rfl⟩
            rw [hnw] at y4
            have HNW := Lib.hid hnw
            have hnwb : nw ≤ 2000 := by have := HGC.out.len; dsimp only at this; omega
            clear hcs x0 x1 x2 x3 x4 hwn hwr hcur hc hnw hmc hgbo
            have HX3 := Lib.hid (heap_alloc_new wr (Obj.cells #[.int .i64 po, .string pk, .int .i64 pf, .int .i64 pt, .slice A2 nw c2] 134))
            have HB3 := Lib.hid (bl_alloc (Below.refl wr.heap.size wr) (Obj.cells #[.int .i64 po, .string pk, .int .i64 pf, .int .i64 pt, .slice A2 nw c2] 134))
            go_wp2_with (fail)
            obtain ⟨W1, hW1⟩ : ∃ W1 : World, W1 = wr := ⟨_, rfl⟩
            subst hW1
            go_loopw [16, 56] (fun v16 vi wy => ∃ (k : Nat) (L1 : List Pn) (vs : List Int), k ≤ nw ∧ vi = .int .i64 k ∧ (plain L1, vs) = takeF (plain L') ⟨⟨po, pk, pf, pt⟩, cws⟩ k ∧ (∀ x ∈ L1, x ∈ L') ∧ MdAt wy B { M with L := L1 } ∧ wy.ownsRow (W1.heap.size + 1) 2 1 v16 vs.length (icells vs) ∧ Kw (fun b => b = B.bo) (W1.alloc (Obj.cells #[.int .i64 po, .string pk, .int .i64 pf, .int .i64 pt, .slice A2 nw c2] 134)) wy) (fun _ k _ => nw - (intOf k).toNat)
            case atStart => exact ⟨0, L', [], Nat.zero_le _, rfl, rfl, fun x h => h, HMD.out.below HB3.out, ⟨rfl, .inl ⟨rfl, rfl⟩⟩, Kw.refl _ _⟩
            case round =>
              obtain ⟨k3, L1, vs, hk3, rfl, hvs, hsub, hmd1, hrow, hkw1⟩ := hrel
              have HVS := Lib.hid hvs
              have HSUB := Lib.hid hsub
              have HM1 := Lib.hid hmd1
              have HRW := Lib.hid hrow
              have HK1 := Lib.hid hkw1
              have hbo : B.bo < W1.heap.size := by
                obtain ⟨es, clock, hm⟩ := HMD.out.mapc
                exact (Array.getElem?_eq_some_iff.1 hm).1
              have hzz : W1.heap.size + 1 ≤ wr.heap.size := by have := hkw1.size; simpa using this
              have hX3 := (hkw1.block _ (Array.getElem?_eq_some_iff.1 HX3.out).1 (by omega)).trans HX3.out
              have HX4 := Lib.hid hX3
              have q0 := cell_of hX3 0
              have q1 := cell_of hX3 1
              have ql := (Array.getElem?_eq_some_iff.1 hX3).1
              simp only [List.getElem?_toArray, List.getElem?_cons_zero, List.getElem?_cons_succ] at q0 q1
              clear hvs hsub hmd1 hrow hkw1 hX3
              by_cases hkn : k3 < nw
              · have hk0 : (0 : Int) ≤ (k3 : Int) := by omega
                have hk1 : (k3 : Int) < (nw : Int) := by omega
                have hkl : k3 < cws.length := by rw [HNW.out]; exact hkn
                obtain ⟨g2, rfl, _, hg2l, ⟨cur2, hcur2⟩, hw2⟩ := HWR.out (by omega)
                obtain ⟨w0, w1⟩ := hw2 k3 hkl
                have hg2o : g2 ≠ B.bo := fun e => by
                  obtain ⟨es, clock, hm⟩ := HMD.out.mapc
                  rw [← e, hcur2] at hm
                  cases hm
                have HTS := Lib.hid (takeF_succ (plain L') ⟨⟨po, pk, pf, pt⟩, cws⟩ k3 hkl)
                have HPW := Lib.hid (HGC.out.ws cws[k3] (List.getElem_mem _))
                obtain ⟨⟨f, u⟩, hfu⟩ : ∃ p, cws[k3] = p := ⟨_, rfl⟩
                rw [hfu] at w0 w1 HPW
                have HFU := Lib.hid hfu
                have z0 := ((HK1.out.cell (i := k3 * 2) (Nat.lt_of_lt_of_le hg2l HB3.out.size) hg2o).trans (HB3.out.cell (p := ⟨g2, k3 * 2, none⟩) hg2l)).trans w0
                have z1 := ((HK1.out.cell (i := k3 * 2 + 1) (Nat.lt_of_lt_of_le hg2l HB3.out.size) hg2o).trans (HB3.out.cell (p := ⟨g2, k3 * 2 + 1, none⟩) hg2l)).trans w1
                have zl : g2 < wr.heap.size := by omega
                dsimp only at z0 z1 HPW
                clear hw2 w0 w1 hcur2 hfu hg2o
                have hba := bl_alloc (bl_alloc (Below.refl wr.heap.size wr) (Obj.cells #[.int .i64 f, .int .i64 u] 54)) (Obj.cells #[.int .i64 po, .string pk, .int .i64 f, .int .i64 u] 105)
                have HBA := Lib.hid hba
                have hs1 : (wr.alloc (Obj.cells #[.int .i64 f, .int .i64 u] 54)).heap.size = wr.heap.size + 1 := by simp
                have hpl := heap_alloc_new (wr.alloc (Obj.cells #[.int .i64 f, .int .i64 u] 54)) (Obj.cells #[.int .i64 po, .string pk, .int .i64 f, .int .i64 u] 105)
                rw [hs1] at hpl
                have HPLC := Lib.hid hpl
                have HXA := Lib.hid ((hba.block _ ql).trans HX4.out)
                clear hba hpl hs1
                go_wp2_with (fail)
                generalize ((wr.alloc (Obj.cells #[.int .i64 f, .int .i64 u] 54)).alloc (Obj.cells #[.int .i64 po, .string pk, .int .i64 f, .int .i64 u] 105)) = W2 at *
                have hm2 := HM1.out.below HBA.out
                obtain ⟨uu, hlu, hru, hun⟩ := md_look hm2 HPW.out
                have hlk : ∀ X : Ext W2, (Instr.lookup 85 (.map (some B.bo)) (.agg #[.int .i64 po, .string pk, .int .i64 f, .int .i64 u]) false).run Tryz.prog X.val = .ok uu X.val := fun X => hlu X.val X.bl
                have HM2 := Lib.hid hm2
                have HRU := Lib.hid hru
                have HUN := Lib.hid hun
                have m6 := ext_cell (hm2.c 6)
                have ml := hm2.lt
                have p0 := ext_cell (v := .int .i64 po) (cell_of HPLC.out 0)
                have p1 := ext_cell (v := .string pk) (cell_of HPLC.out 1)
                have p2 := ext_cell (v := .int .i64 f) (cell_of HPLC.out 2)
                have p3 := ext_cell (v := .int .i64 u) (cell_of HPLC.out 3)
                have pl := (Array.getElem?_eq_some_iff.1 HPLC.out).1
                simp only [mdcells, List.getElem?_toArray, List.getElem?_cons_zero, List.getElem?_cons_succ] at m6
                clear hm2 hlu hru hun z0 z1 zl q0 q1 ql
                refine wp_region_quiet_tail (C := fun w' => ∃ x : Ext W2, w' = x.val) 7 (by kernel_rfl) (by kernel_rfl) ⟨⟨W2.drew, (Below.refl _ _).drew⟩, rfl⟩ ?_
                simp only [List.take_succ_cons, List.take_zero, List.drop_succ_cons, List.drop_zero]
                repeat (go_big_quiet_step (fail))
                refine wpQuiet_nil ?_
                rintro w8 ⟨⟨_, hb8⟩, rfl⟩
                have HBC := Lib.hid (bl_then HBA.out hb8)
                have HM8 := Lib.hid (HM2.out.below hb8)
                have HR8 := Lib.hid (own_below HRW.out HBC.out)
                have HU8 := Lib.hid (own_below HRU.out hb8)
                have HP8 := Lib.hid ((hb8.block _ pl).trans HPLC.out)
                have HX8 := Lib.hid ((hb8.block _ (Array.getElem?_eq_some_iff.1 HXA.out).1).trans HXA.out)
                have HTK := Lib.hid (takeF_tot (plain L') ⟨⟨po, pk, pf, pt⟩, cws⟩ k3 (Nat.le_of_lt hkl))
                rw [← HVS.out] at HTK HTS
                have hlv : vs.length + (valsN L1 ⟨po, pk, f, u⟩).length ≤ 4000000 := by
                  have h1 := HTK.out
                  have h2 := tot_take (plain L1) ⟨po, pk, f, u⟩
                  rw [← plain_vals] at h2
                  have h3 := HTO.out
                  dsimp only at h1
                  omega
                have hbz : W1.heap.size + 1 ≤ w8.heap.size := by have := HBC.out.size; omega
                obtain ⟨nv, hnv⟩ : ∃ nv, (valsN L1 ⟨po, pk, f, u⟩).length = nv := ⟨_, rfl⟩
                obtain ⟨nvs, hnvs⟩ : ∃ nvs, vs.length = nvs := ⟨_, rfl⟩
                have HU9 := HU8
                rw [hnv] at HU9 hlv
                have HR9 := HR8
                rw [hnvs] at HR9 hlv
                have HNV := Lib.hid hnv
                have HNVS := Lib.hid hnvs
                have HONE := Lib.hid (icells_one (valsN L1 ⟨po, pk, f, u⟩))
                clear hlk m6 p0 p1 p2 p3 ml hb8 hnv hnvs HU8 HR8
                go_wp2_with (at_builtin; refine wpList_append_row _ rfl _ _ 135 2 1 8 (.int .i64 0) und135 i2r rfl (by decide) (by decide) rfl (W1.heap.size + 1) 0 nvs u16 (icells vs) rfl HR9.out uu nv _ rfl HU9.out HONE.out hlv hbz ?_)
                intro v' w9 ho9 hg9 hl9
                have hty : ∀ b, u16.ownBlock = some b → W1.heap.size + 1 ≤ b ∧ ∃ cur, w8.heap[b]? = some (Obj.cells cur 2) := fun b hb => by
                  rcases HR9.out.2 with ⟨e0, _⟩ | ⟨g, c, cur, e0, hB, hg, _⟩
                  · rw [e0] at hb; cases hb
                  · rw [e0] at hb; injection hb with hb; subst hb; exact ⟨hB, cur, hg⟩
                have HM9 := Lib.hid (HM8.out.own HR9.out hg9 (by decide) (by decide) (fun a ha => by have := (HMD.out.opa a ha).1; omega) (.inr (fun x hx hb => by
                  have h1 := (hty _ hb).1
                  obtain ⟨cur, h2⟩ := (HMD.out.rows x (HSUB.out x hx)).heap
                  have h3 := (Array.getElem?_eq_some_iff.1 h2).1
                  omega)))
                have HP9 := Lib.hid ((hg9.block _ (Array.getElem?_eq_some_iff.1 HP8.out).1 (fun e => by
                  obtain ⟨_, cur, hc⟩ := hty _ e.symm
                  rw [HP8.out] at hc
                  injection hc with hc
                  injection hc with _ hc
                  exact absurd hc (by decide))).trans HP8.out)
                have HK9 := Lib.hid ((HK1.out.trans3 HBC.out).grownNew hg9 (fun b hb => by have := (hty b hb).1; simpa using this))
                have HO9 := Lib.hid ho9
                clear ho9 hg9 hl9 hty HM8 HP8 HBC HU9 HR9 HRU HUN HM2 HPLC HXA HBA
                go_wp2_with (fail)
                have m6 := ext_cell (HM9.out.c 6)
                have ml := HM9.out.lt
                have p0 := ext_cell (v := .int .i64 po) (cell_of HP9.out 0)
                have p1 := ext_cell (v := .string pk) (cell_of HP9.out 1)
                have p2 := ext_cell (v := .int .i64 f) (cell_of HP9.out 2)
                have p3 := ext_cell (v := .int .i64 u) (cell_of HP9.out 3)
                have pl := (Array.getElem?_eq_some_iff.1 HP9.out).1
                simp only [mdcells, List.getElem?_toArray, List.getElem?_cons_zero, List.getElem?_cons_succ] at m6
                refine wp_region_quiet_tail (C := fun w' => ∃ x : Ext w9, w' = x.val) 5 (by kernel_rfl) (by kernel_rfl) ⟨⟨w9.drew, (Below.refl _ _).drew⟩, rfl⟩ ?_
                simp only [List.take_succ_cons, List.take_zero, List.drop_succ_cons, List.drop_zero]
                repeat (go_big_quiet_step (fail))
                refine wpQuiet_nil ?_
                rintro w10 ⟨⟨_, hb10⟩, rfl⟩
                have HNDK := nd_take (L := plain L') ⟨⟨po, pk, pf, pt⟩, cws⟩ HNDJ.out k3 (Nat.le_of_lt hkl)
                rw [← HVS.out] at HNDK
                have hndk : (L1.map (·.p)).Nodup := by rw [← plain_keys]; exact HNDK
                obtain ⟨w11, hrun, hm11, hk11⟩ := md_del (HM9.out.below hb10) hndk HPW.out 0
                have HM11 := Lib.hid hm11
                have HK11 := Lib.hid ((HK9.out.trans3 hb10).trans hk11)
                have HRUN := Lib.hid hrun
                have HO11 : Hid (w11.ownsRow (W1.heap.size + 1) 2 1 v' (nvs + nv) (icells vs ++ icells (valsN L1 ⟨po, pk, f, u⟩))) := Lib.hid (by
                  have ho := own_below HO9.out hb10
                  refine ⟨ho.1, ?_⟩
                  rcases ho.2 with h0 | ⟨g, c, cur, e1, hb, hg, hr⟩
                  · exact .inl h0
                  · exact .inr ⟨g, c, cur, e1, hb, (hk11.block g (Array.getElem?_eq_some_iff.1 hg).1 (by omega)).trans hg, hr⟩)
                clear hrun hm11 hk11 hb10 m6 ml p0 p1 p2 p3 pl HNDK hndk HM9 HK9 HO9
                go_wp2_with (refine wpList_delete_run _ rfl _ _ rfl _ _ rfl rfl w11 HRUN.out ?_)
                refine ⟨⟨k3 + 1, strikeN L1 ⟨po, pk, f, u⟩, vs ++ valsN L1 ⟨po, pk, f, u⟩, by omega, by push_cast; rfl, ?_, fun x hx => HSUB.out x (strikeN_mem.1 hx).1, HM11.out, ?_, HK11.out⟩, by simp [intOf]; omega⟩
                · have h1 := HTS.out
                  rw [HFU.out] at h1
                  rw [h1, plain_strike, plain_vals]
                  rfl
                · rw [List.length_append, HNV.out, HNVS.out, icells_app]
                  exact HO11.out
              · have hk1 : ¬ (k3 : Int) < (nw : Int) := by omega
                have hke : k3 = nw := by omega
                have hkl : k3 = cws.length := by rw [HNW.out]; exact hke
                have HAP : Hid (applyC (plain L') ⟨⟨po, pk, pf, pt⟩, cws⟩ v = (strike1 (plain L1) ⟨po, pk, pf, pt⟩ ++ [(⟨po, pk, pf, pt⟩, vs ++ [v])], vs ++ [v])) := Lib.hid (by
                  unfold applyC
                  rw [← hkl, ← HVS.out])
                have HNDK : Hid ((L1.map (·.p)).Nodup) := Lib.hid (by
                  have h1 := nd_take (L := plain L') ⟨⟨po, pk, pf, pt⟩, cws⟩ HNDJ.out k3 (Nat.le_of_eq hkl)
                  rw [← HVS.out] at h1
                  rw [← plain_keys]
                  exact h1)
                have hlv : vs.length + 1 ≤ 4000000 := by
                  have h1 := takeF_tot (plain L') ⟨⟨po, pk, pf, pt⟩, cws⟩ k3 (Nat.le_of_eq hkl)
                  rw [← HVS.out] at h1
                  have h3 := HTO.out
                  dsimp only at h1
                  omega
                have hLl : L1.length < maxLen := by
                  have h1 := takeF_len (plain L') ⟨⟨po, pk, pf, pt⟩, cws⟩ k3 (Nat.le_of_eq hkl)
                  rw [← HVS.out] at h1
                  have h3 := HLE.out
                  have h4 : (plain L1).length = L1.length := by unfold plain; rw [List.length_map]
                  have h5 : (plain M.L).length = M.L.length := by unfold plain; rw [List.length_map]
                  have h6 := HLN.out
                  dsimp only at h1
                  unfold maxLen
                  omega
                clear hke hkl
                have q2 := cell_of HX4.out 2
                have q3 := cell_of HX4.out 3
                simp only [List.getElem?_toArray, List.getElem?_cons_zero, List.getElem?_cons_succ] at q2 q3
                have hev := (HK1.out.block _ (Nat.lt_of_lt_of_le (Nat.lt_of_lt_of_le (Array.getElem?_eq_some_iff.1 HNR.out).1 HK.out.size) HB3.out.size) (fun e => by
                  obtain ⟨es, clock, hm⟩ := HMR.out.mapc
                  rw [← e, HNR.out] at hm
                  cases hm)).trans ((HB3.out.block _ (Nat.lt_of_lt_of_le (Array.getElem?_eq_some_iff.1 HNR.out).1 HK.out.size)).trans ((HK.out.block _ (Array.getElem?_eq_some_iff.1 HNR.out).1 (fun e => by
                  obtain ⟨es, clock, hm⟩ := HMR.out.mapc
                  rw [← e, HNR.out] at hm
                  cases hm)).trans HNR.out))
                have HEV := Lib.hid hev
                go_wp2_with (fail)
                have HR4 : Hid (R4 wr B { M with L := L1 } w.heap.size W1.heap.size #[.int .i64 k, .int .i64 src, .int .i64 t, .string key, .int .i64 v] #[.int .i64 po, .string pk, .int .i64 pf, .int .i64 pt, .slice A2 nw c2]) := Lib.hid ⟨HM1.out.md, hev, HX4.out⟩
                obtain ⟨r0, r1, r2, r3, r4, r5⟩ := HR4.out.all
                have evl := (Array.getElem?_eq_some_iff.1 hev).1
                have ml := HM1.out.lt
                clear hev q0 q1 q2 q3
                obtain ⟨nvs, hnvs⟩ : ∃ nvs, vs.length = nvs := ⟨_, rfl⟩
                have HNVS := Lib.hid hnvs
                rw [hnvs] at hlv
                have HRW9 := HRW
                rw [hnvs] at HRW9
                have HON := Lib.hid (icells_one [v])
                have HBD : Hid (Below wr.heap.size wr (wr.alloc (Obj.cells #[.int .i64 v] 2)).drew) := Lib.hid (bl_alloc (Below.refl _ _) _).drew
                have HNR8 : Hid ((wr.alloc (Obj.cells #[.int .i64 v] 2)).drew.ownsRow 0 2 1 (.slice (some ⟨wr.heap.size, 0, none⟩) 1 1) 1 (icells [v])) := Lib.hid (own_one (news := [.int .i64 v]) (heap_alloc_new wr _) rfl (Nat.zero_le _))
                have HR8 := Lib.hid (own_below HRW9.out HBD.out)
                have hbz : W1.heap.size + 1 ≤ (wr.alloc (Obj.cells #[.int .i64 v] 2)).drew.heap.size := by have := HBD.out.size; omega
                have HPF := Lib.hid (fun v' w9 hg9 ho9 => put_facts (w9 := w9) (v' := v') (vs' := vs ++ [v]) (HR4.out.below HBD.out) (HM1.out.below HBD.out) HNDK.out HGC.out.pl hLl (fun a ha => by have := (HMD.out.opa a ha).1; omega) (fun x hx => by
                  obtain ⟨cur, h2⟩ := (HMD.out.rows x (HSUB.out x hx)).heap
                  have h3 := (Array.getElem?_eq_some_iff.1 h2).1
                  omega) HR8.out hg9 ho9 (by simp))
                dsimp only at HPF
                clear hnvs
                go_region_held3 (fun w' => w'.cell? ⟨B.bm, 6, none⟩ = some (.map (some B.bo)) ∧ w'.cell? ⟨w.heap.size, 4, none⟩ = some (.int .i64 v) ∧ w'.cell? ⟨W1.heap.size, 0, none⟩ = some (.int .i64 po) ∧ w'.cell? ⟨W1.heap.size, 1, none⟩ = some (.string pk) ∧ w'.cell? ⟨W1.heap.size, 2, none⟩ = some (.int .i64 pf) ∧ w'.cell? ⟨W1.heap.size, 3, none⟩ = some (.int .i64 pt))
                  (first | exact hr10.all | exact hr9.all | exact (HR4.out.below HBD.out).all | go_keep)
                  ((refine step_append_row _ rfl _ _ 135 2 1 8 (.int .i64 0) und135 i2r rfl (by decide) (by decide) rfl (W1.heap.size + 1) 0 nvs u16 (icells vs) rfl HR8.out _ 1 _ rfl HNR8.out HON.out hlv hbz ?_; intro v' w9 ho9 hg9 hl9; obtain ⟨rr, w10, rfl, hrun, hm10, hr9, hr10, hk10⟩ := HPF.out v' w9 hg9 (by rw [List.length_append, HNVS.out, icells_app]; exact ho9)))
                have HRE := Lib.hid hr10
                have HME := Lib.hid hm10
                have HKE : Hid (Kw (fun b => b = B.bo) W1 w10) := Lib.hid (((((Kw.ofBelow HB3.out).trans HK1.out).trans3 HBD.out).grownNew hg9 (fun b hb => by have := (HR8.out.lt b hb).1; omega)).trans hk10)
                have HPE : Hid (plain (strikeN L1 ⟨po, pk, pf, pt⟩ ++ [(⟨⟨po, pk, pf, pt⟩, rr, vs ++ [v]⟩ : Pn)]) = (applyC (plain L') ⟨⟨po, pk, pf, pt⟩, cws⟩ v).1) := Lib.hid (by
                  rw [HAP.out, plain_app, plain_strike])
                clear ho9 hg9 hl9 hrun hm10 hr9 hr10 hk10 r0 r1 r2 r3 r4 r5 evl ml HR4 HRW9 HBD HNR8 HR8 HPF HON HNVS HX4 HM1 HRW hbz hlv hLl
                obtain ⟨r0, r1, r2, r3, r4, r5⟩ := HRE.out.all
                have xl := (Array.getElem?_eq_some_iff.1 HRE.out.ch).1
                have hgt := HGC.out.t
                dsimp only at hgt
                have HDU := Lib.hid (fun W => due_any pf pt was W hgt)
                go_wp2_with (fail)
                refine (HDU.out _).mono ?_
                rintro e w11 ⟨rfl, hb11⟩
                have HR11 := Lib.hid (HRE.out.below hb11)
                have HM11 := Lib.hid (HME.out.below hb11)
                have HK11 := Lib.hid (HKE.out.trans3 hb11)
                clear r0 r1 r2 r3 r4 r5 xl hb11 HRE HME HKE HDU
                by_cases hdue : pt - 1 ≤ was
                · rw [decide_eq_true hdue]
                  have HRT2 : Hid (recF was v (l.take (j + 1)) (plain M.L) = ((applyC (plain L') ⟨⟨po, pk, pf, pt⟩, cws⟩ v).1, (recF was v (l.take j) (plain M.L)).2 ++ [(⟨po, pk, pf, pt⟩, vs ++ [v])])) := Lib.hid (by
                    rw [HRT.out]
                    unfold recS
                    dsimp only
                    rw [if_pos hdue, ← HPL.out, HAP.out])
                  have hmx : (⟨⟨po, pk, pf, pt⟩, rr, vs ++ [v]⟩ : Pn) ∈ strikeN L1 ⟨po, pk, pf, pt⟩ ++ [(⟨⟨po, pk, pf, pt⟩, rr, vs ++ [v]⟩ : Pn)] := List.mem_append_right _ (List.mem_singleton.2 rfl)
                  have HOKX : Hid (okT (M.aggAt ⟨po, pk, pf, pt⟩) (vs ++ [v])) := Lib.hid (HOK.out (⟨po, pk, pf, pt⟩, vs ++ [v]) (HRM.out _ (by rw [HRT2.out]; exact List.mem_append_right _ (List.mem_singleton.2 rfl))))
                  have HKW : Hid (Kw (S3 B) w w11) := Lib.hid (((Kw.ofBelow HW2.out).trans (HK.out.mono (fun b _ e => .inr (.inr e)))).trans (HK11.out.mono (fun b _ e => .inr (.inr e))))
                  have HOT : Hid (Calls Tryz.prog 45 #[.pointer (some ⟨B.bm, 0, none⟩), .agg #[.int .i64 po, .string pk, .int .i64 pf, .int .i64 pt], .bool true] w11 fun e w' => e = .returned (.agg #[.int .i64 po, .string pk, .int .i64 pf, .int .i64 pt, .string (F (M.aggAt ⟨po, pk, pf, pt⟩) (vs ++ [v])), .bool true]) ∧ Below w11.heap.size w11 w') := Lib.hid (by
                    obtain ⟨oi, hoi, hoe⟩ := HGC.out.op
                    dsimp only at hoe
                    refine out_any B _ ⟨⟨po, pk, pf, pt⟩, rr, vs ++ [v]⟩ true (F (M.aggAt ⟨po, pk, pf, pt⟩) (vs ++ [v])) w11 HM11.out hmx oi hoe hoi (fun W hb => ?_)
                    have ha : (M.j.ops.getD oi zeroP).agg = M.aggAt ⟨po, pk, pf, pt⟩ := by
                      unfold Md.aggAt
                      rw [hoe]
                      rfl
                    show Calls Tryz.prog 75 #[.int .i64 (M.j.ops.getD oi zeroP).agg, rwV rr] W _
                    rw [ha]
                    exact HTT.out W _ rr _ (HKW.out.trans3 hb) ((HM11.out.below hb).rows _ hmx) HOKX.out)
                  obtain ⟨r0, r1, r2, r3, r4, r5⟩ := HR11.out.all
                  have xl := (Array.getElem?_eq_some_iff.1 HR11.out.ch).1
                  obtain ⟨sx, hsx⟩ : ∃ s, F (M.aggAt ⟨po, pk, pf, pt⟩) (vs ++ [v]) = s := ⟨_, rfl⟩
                  rw [hsx] at HOT
                  have HSX := Lib.hid hsx
                  clear hsx
                  go_wp2_with (fail)
                  refine HOT.out.mono ?_
                  rintro e w12 ⟨rfl, hb12⟩
                  have hba := bl_alloc hb12 (Obj.cells #[.int .i64 po, .string pk, .int .i64 pf, .int .i64 pt, .string sx, .bool true] 56)
                  have HM12 := Lib.hid (HM11.out.below hba)
                  have HK12 := Lib.hid (HK11.out.trans3 hba)
                  have HO12 := Lib.hid (own_kwB HO.out (HK11.out.trans3 hba) (not_map HMD.out.mapc))
                  have HNR : Hid ((w12.alloc (Obj.cells #[.int .i64 po, .string pk, .int .i64 pf, .int .i64 pt, .string sx, .bool true] 56)).ownsRow 0 56 6 (.slice (some ⟨w12.heap.size, 0, none⟩) 1 1) 1 [.int .i64 po, .string pk, .int .i64 pf, .int .i64 pt, .string sx, .bool true]) := Lib.hid (own_one (news := [.int .i64 po, .string pk, .int .i64 pf, .int .i64 pt, .string sx, .bool true]) (heap_alloc_new w12 _) rfl (Nat.zero_le _))
                  have hon : ∀ u ∈ [Value.int .i64 po, .string pk, .int .i64 pf, .int .i64 pt, .string sx, .bool true], u.oneCell' = true := by
                    intro u hu
                    simp only [List.mem_cons, List.not_mem_nil, or_false] at hu
                    rcases hu with rfl | rfl | rfl | rfl | rfl | rfl <;> rfl
                  have HON := Lib.hid hon
                  have hbz : W0.heap.size ≤ (w12.alloc (Obj.cells #[.int .i64 po, .string pk, .int .i64 pf, .int .i64 pt, .string sx, .bool true] 56)).heap.size := by
                    have h1 := HK.out.size
                    have h2 := HK12.out.size
                    omega
                  have hol : (recF was v (l.take j) (plain M.L)).2.length + 1 ≤ 4000000 := by have := HOL.out; omega
                  obtain ⟨no, hno⟩ : ∃ no, (recF was v (l.take j) (plain M.L)).2.length = no := ⟨_, rfl⟩
                  rw [hno] at hol HO12
                  have HNO := Lib.hid hno
                  clear hno hon hb12 hba r0 r1 r2 r3 r4 r5 xl HOT hmx
                  go_wp2_with (at_builtin; refine wpList_append_row _ rfl _ _ 50 56 6 64 (.agg #[.int .i64 0, .string ⟨#[]⟩, .int .i64 0, .int .i64 0, .string ⟨#[]⟩, .bool false]) und50 i56 rfl (by decide) (by decide) rfl W0.heap.size 0 no u13 _ rfl HO12.out _ 1 _ rfl HNR.out HON.out hol hbz ?_)
                  intro v' w13 ho13 hg13 hl13
                  have HM13 := Lib.hid (HM12.out.own HO12.out hg13 (by decide) (by decide) (fun a ha => (HMR.out.opa a ha).1) (.inl (by decide)))
                  have HK13 := Lib.hid ((HK.out.trans HK12.out).grownNew hg13 (fun b hb => (HO12.out.lt b hb).1))
                  have HO13 := Lib.hid ho13
                  clear ho13 hg13 hl13
                  go_wp2_with (fail)
                  exact ⟨⟨j + 1, _, by omega, by push_cast; rfl, by rw [HRT2.out]; exact HPE.out, HM13.out, by rw [HRT2.out, outcells_app, HSX.out, List.length_append, HNO.out]; exact HO13.out, HK13.out⟩, by simp [intOf]; omega⟩
                · rw [decide_eq_false hdue]
                  have HRT2 : Hid (recF was v (l.take (j + 1)) (plain M.L) = ((applyC (plain L') ⟨⟨po, pk, pf, pt⟩, cws⟩ v).1, (recF was v (l.take j) (plain M.L)).2)) := Lib.hid (by
                    rw [HRT.out]
                    unfold recS
                    dsimp only
                    rw [if_neg hdue, ← HPL.out, List.append_nil])
                  go_wp2_with (fail)
                  exact ⟨⟨j + 1, _, by omega, by push_cast; rfl, by rw [HRT2.out]; exact HPE.out, HM11.out, by rw [HRT2.out]; exact own_kwB HO.out HK11.out (not_map HMD.out.mapc), HK.out.trans HK11.out⟩, by simp [intOf]; omega⟩
          · have hj1 : ¬ (j : Int) < (i : Int) := by omega
            have hje : j = i := by omega
            have htk : l.take i = l := by rw [← HNL.out, List.take_length]
            rw [hje, htk] at HPL HO
            have m7 := HMD.out.c 7
            have f7 := HMD.out.fz 7
            have ml7 := HMD.out.lt
            simp only [mdcells, List.getElem?_toArray, List.getElem?_cons_zero, List.getElem?_cons_succ] at m7
            have ed : IntKind.i64.wrap (M.dr + (dr : Int)) = M.dr + (dr : Int) := by rw [IntKind.wrap_i64]; omega
            clear hje htk
            go_wp2_with (fail)
            go_ret2
            unfold RecR
            rw [if_neg (by rw [HQ.out, HLN.out]; omega)]
            refine ⟨_, L', rfl, ?_, HPL.out, HMD.out.setDr _, ?_⟩
            · have hne : ∀ g cur, wr.heap[g]? = some (Obj.cells cur 56) → g ≠ B.bm := fun g cur hg e => by
                have h3 := HMD.out.md
                rw [← e, hg] at h3
                injection h3 with h3
                injection h3 with _ h3
                exact absurd h3 (by decide)
              have ho := own_weaken HO.out HW2.out.size
              refine ⟨ho.1, ?_⟩
              rcases ho.2 with h0 | ⟨g, c, cur, e1, hb, hg, hr⟩
              · exact .inl h0
              · exact .inr ⟨g, c, cur, e1, hb, (Below.heap_setCell wr _ _ g (hne g cur hg)).trans hg, hr⟩
            · exact (((Kw.ofBelow HW2.out).trans HK.out).mono (fun b _ h => .inr h)).setCell (p := ⟨B.bm, 7, none⟩) (.inl rfl) _
end Go.Proofs.YtfojblbnhapedaaGreatDoor
