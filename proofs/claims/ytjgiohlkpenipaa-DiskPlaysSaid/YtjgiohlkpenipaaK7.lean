/- Contract of tells. Conditions: as each theorem states them. -/
import Derived.Test.YtjgiohlkpenipaaK6
namespace Go.Proofs.Ytjgiohlkpenipaa
open Go.RowKit Go.Maps
set_option linter.unusedVariables false
set_option linter.unusedSimpArgs false

def noSuch : ByteArray := ⟨#[110, 111, 46, 115, 117, 99, 104, 45, 110, 97, 109, 101]⟩
theorem okN_noSuch : okN noSuch := by unfold okN; decide +kernel
set_option maxRecDepth 100000 in
set_option maxHeartbeats 8000000 in
theorem tells_any (L : Lay) (s : DS) (b : Nat) (v : Rv) (w : World) (hd : DAt w L s) (hr : RowsAt w v s) (iv : Inv s) :
    Calls Try.prog 26 #[dP L, refV s v] w fun e w' => e = .returned (.bool true) ∧ Below w.heap.size w w' := by
  have hdl : s.dir.length ≤ 1000000 := by have := iv.ok.dl; have := iv.ok.st; omega
  have fb := hd.fb
  have hsum := iv.ok.sum
  obtain ⟨Af, cf, Ad, cd, Ak, ck, Aw, cw, rfl⟩ := hr.forms
  obtain ⟨vv, hvv⟩ : ∃ v : Rv, (⟨.slice Af s.files.length cf, .slice Ad s.dir.length cd, .slice Ak s.kept.length ck, .slice Aw s.waits.length cw⟩ : Rv) = v := ⟨_, rfl⟩
  have HRV : Hid (refV s vv = .agg #[.int .i64 s.room, .int .i64 s.steps, .int .i64 s.fuse, .bool s.down, .slice Af s.files.length cf, .slice Ad s.dir.length cd, .slice Ak s.kept.length ck, .slice Aw s.waits.length cw]) := Lib.hid (by rw [← hvv]; rfl)
  rw [hvv] at hr ⊢
  have hb0 := bl_alloc (Below.refl w.heap.size w) (Obj.cells #[.int .i64 s.room, .int .i64 s.steps, .int .i64 s.fuse, .bool s.down, .slice Af s.files.length cf, .slice Ad s.dir.length cd, .slice Ak s.kept.length ck, .slice Aw s.waits.length cw] 52)
  have HX := Lib.hid (new_heap w (Obj.cells #[.int .i64 s.room, .int .i64 s.steps, .int .i64 s.fuse, .bool s.down, .slice Af s.files.length cf, .slice Ad s.dir.length cd, .slice Ak s.kept.length ck, .slice Aw s.waits.length cw] 52))
  have HB := Lib.hid hb0
  have hnl : s.namesL.length ≤ 1000000 := by
    unfold DS.namesL
    split
    · simp
    · exact hdl
  have HOK : Hid (∀ p ∈ s.namesL, okN p.1) := Lib.hid (fun p hp => by
    unfold DS.namesL at hp
    split at hp
    · cases hp
    · exact okN_named (iv.ok.nd p hp))
  have HNA := Lib.hid (fun w' (k : Below w.heap.size w w') => names_any L s w' (hd.below k) iv)
  have HNB := Lib.hid (fun w' (k : Below w.heap.size w w') => rnames_any vv s w' (hr.below k) hdl)
  have HSM := Lib.hid (fun w' (B1 B2 : Option Addr) (c1 c2 lo1 lo2 : Nat) (h1 : NamesAt w' lo1 B1 s.namesL) (h2 : NamesAt w' lo2 B2 s.namesL) => nsame_any B1 B2 c1 c2 lo1 lo2 s.namesL s.namesL w' h1 h2 rfl hnl)
  have HUA := Lib.hid (fun w' (k : Below w.heap.size w w') => used_any L s w' (hd.below k) (by omega))
  have HUB := Lib.hid (fun w' (k : Below w.heap.size w w') => rused_any vv s w' (hr.below k) fb (by omega))
  have HSA := Lib.hid (fun w' (k : Below w.heap.size w w') => steps_any L s w' (hd.below k))
  have HDA := Lib.hid (fun w' (k : Below w.heap.size w w') => down_any L s w' (hd.below k))
  have HRA := Lib.hid (fun w' (k : Below w.heap.size w w') n (hn : okN n) => read_any L s n w' (hd.below k) hn)
  have HRB := Lib.hid (fun w' (k : Below w.heap.size w w') n => rread_any vv s n w' (hr.below k) fb hdl)
  have hub := iv.ok.usedB
  have hst := iv.ok.st
  rw [HRV.out] at HNB HUB HRB ⊢
  have hns := okN_noSuch
  obtain ⟨l, hl⟩ : ∃ l, s.namesL = l := ⟨_, rfl⟩
  unfold NamesP at HNB
  rw [hl] at HNA HNB HSM HOK hnl
  obtain ⟨n, hn⟩ : ∃ n, l.length = n := ⟨_, rfl⟩
  have HN := Lib.hid hn
  rw [hn] at HNA HNB HSM hnl
  generalize s.used = U at *
  obtain ⟨rf, hrf⟩ : ∃ rf : ByteArray → ByteArray × Int, s.read = rf := ⟨_, rfl⟩
  rw [hrf] at HRA HRB
  generalize s.down = dn at *
  generalize s.steps = sn at *
  generalize s.room = rm at *
  generalize s.fuse = fu at *
  clear hd hr iv fb hsum hb0 hl hn hrf hvv HRV hdl
  unfold dP at *
  go_enter Try.func26, Try.ntmps26
  go_wp2_with (fail)
  generalize (w.alloc (Obj.cells #[.int .i64 rm, .int .i64 sn, .int .i64 fu, .bool dn, .slice Af s.files.length cf, .slice Ad s.dir.length cd, .slice Ak s.kept.length ck, .slice Aw s.waits.length cw] 52)) = W at *
  refine (HNA.out W HB.out).mono ?_
  rintro r w1 ⟨B1, c1, rfl, hc1, hn1, hb1⟩
  have N1 := Lib.hid hn1
  have K1 := Lib.hid (HB.out.trans (hb1.mono HB.out.size))
  have KX : Hid (∀ z, Below w1.drew.heap.size w1.drew z → z.heap[w.heap.size]? = some (Obj.cells #[.int .i64 rm, .int .i64 sn, .int .i64 fu, .bool dn, .slice Af s.files.length cf, .slice Ad s.dir.length cd, .slice Ak s.kept.length ck, .slice Aw s.waits.length cw] 52)) := Lib.hid (fun z k => by
    have hl := (Array.getElem?_eq_some_iff.1 HX.out).1
    have h1 : w1.heap[w.heap.size]? = _ := (hb1.block _ hl).trans HX.out
    exact (k.block _ (Array.getElem?_eq_some_iff.1 h1).1).trans h1)
  have KC : Hid (∀ z, Below w1.drew.heap.size w1.drew z → z.cell? ⟨w.heap.size, 0, none⟩ = some (.int .i64 rm) ∧ z.cell? ⟨w.heap.size, 1, none⟩ = some (.int .i64 sn) ∧ z.cell? ⟨w.heap.size, 2, none⟩ = some (.int .i64 fu) ∧ z.cell? ⟨w.heap.size, 3, none⟩ = some (.bool dn) ∧ z.cell? ⟨w.heap.size, 4, none⟩ = some (.slice Af s.files.length cf) ∧ z.cell? ⟨w.heap.size, 5, none⟩ = some (.slice Ad s.dir.length cd) ∧ z.cell? ⟨w.heap.size, 6, none⟩ = some (.slice Ak s.kept.length ck) ∧ z.cell? ⟨w.heap.size, 7, none⟩ = some (.slice Aw s.waits.length cw)) := Lib.hid (fun z k => by
    have e := KX.out z k
    exact ⟨cell_of e 0, cell_of e 1, cell_of e 2, cell_of e 3, cell_of e 4, cell_of e 5, cell_of e 6, cell_of e 7⟩)
  have KW : Hid (∀ z, Below w1.drew.heap.size w1.drew z → Below w.heap.size w z) := Lib.hid (fun z k => K1.out.drew.trans (k.mono K1.out.size))
  have hn1d : NamesAt w1.drew W.heap.size B1 l := fun h => hn1 h
  have N1d := Lib.hid hn1d
  clear hn1 hb1 hn1d HB HX
  go_wp2_with (fail)
  have k0 := Lib.hid (Below.refl w1.drew.heap.size w1.drew)
  have hc0 := KC.out _ k0.out
  go_region_held3 (fun z => z.cell? ⟨w.heap.size, 0, none⟩ = some (.int .i64 rm) ∧ z.cell? ⟨w.heap.size, 1, none⟩ = some (.int .i64 sn) ∧ z.cell? ⟨w.heap.size, 2, none⟩ = some (.int .i64 fu) ∧ z.cell? ⟨w.heap.size, 3, none⟩ = some (.bool dn) ∧ z.cell? ⟨w.heap.size, 4, none⟩ = some (.slice Af s.files.length cf) ∧ z.cell? ⟨w.heap.size, 5, none⟩ = some (.slice Ad s.dir.length cd) ∧ z.cell? ⟨w.heap.size, 6, none⟩ = some (.slice Ak s.kept.length ck) ∧ z.cell? ⟨w.heap.size, 7, none⟩ = some (.slice Aw s.waits.length cw))
    (first | exact hc0 | exact KC.out _ k5.out | exact KC.out _ k4.out | exact KC.out _ k3.out | exact KC.out _ k2.out)
    ((first
      | (go_at_call 20; refine (HDA.out w5 (KW.out _ k5.out)).mono ?_; rintro r w6 ⟨rfl, rfl⟩)
      | (go_at_call 22; refine (HSA.out w5 (KW.out _ k5.out)).mono ?_; rintro r w6 ⟨rfl, rfl⟩)
      | (go_at_call 63; refine (HUB.out w4 (KW.out _ k4.out)).mono ?_; rintro r w5 ⟨rfl, hb5⟩; have k5 := Lib.hid (k4.out.trans (hb5.mono k4.out.size)))
      | (go_at_call 33; refine (HUA.out w3 (KW.out _ k3.out)).mono ?_; rintro r w4 ⟨rfl, hb4⟩; have k4 := Lib.hid (k3.out.trans (hb4.mono k3.out.size)))
      | (go_at_call 49; refine (HSM.out w2 B1 B2 c1 c2 _ _ (N1d.out.below k2.out) hn2).mono ?_; rintro r w3 ⟨rfl, hb3⟩; have k3 := Lib.hid (k2.out.trans (hb3.mono k2.out.size)))
      | (go_at_call 62; refine (HNB.out w1.drew (KW.out _ k0.out)).mono ?_; rintro r w2 ⟨B2, c2, rfl, hc2, hn2, hb2⟩; have k2 := Lib.hid hb2)))
  rename_i hHeld
  clear hHeld
  have K5 := k5
  have N5 := Lib.hid (N1d.out.below k5.out)
  clear hc0 hn2 hb2 hb3 hb4 hb5 k2 k3 k4 k0 HSM HNA HNB HUA HUB HSA HDA N1d N1 K1
  go_wp2_with (fail)
  go_loopw [6] (fun vi wr => ∃ i : Nat, i ≤ n ∧ vi = .int .i64 i ∧ Below w1.drew.heap.size w1.drew wr ∧ NamesAt wr W.heap.size B1 l) (fun i _ => n - (intOf i).toNat)
  case atStart => exact ⟨0, Nat.zero_le _, rfl, K5.out, N5.out⟩
  case round =>
    obtain ⟨i, hin, rfl, hbl, hna⟩ := hrel
    have HBL := Lib.hid hbl
    have HNA := Lib.hid hna
    obtain ⟨c0, c1', c2', c3, c4, c5, c6, c7⟩ := KC.out _ hbl
    have xl := (Array.getElem?_eq_some_iff.1 (KX.out _ hbl)).1
    have HKW := Lib.hid (KW.out _ hbl)
    have e0 := ext_cell c0
    have e1 := ext_cell c1'
    have e2 := ext_cell c2'
    have e3 := ext_cell c3
    have e4 := ext_cell c4
    have e5 := ext_cell c5
    have e6 := ext_cell c6
    have e7 := ext_cell c7
    clear hbl hna c0 c1' c2' c3 c4 c5 c6 c7
    by_cases hi : i < n
    · have hi0 : (0 : Int) ≤ (i : Int) := by omega
      have hi1 : (i : Int) < (n : Int) := by omega
      obtain ⟨g1, rfl, _, hg1, hcg⟩ := HNA.out (by rw [HN.out]; omega)
      have y0 := hcg i (by rw [HN.out]; exact hi)
      have hpm : l.getD i zeroN ∈ l := by
        rw [List.getD_eq_getElem?_getD, List.getElem?_eq_getElem (by rw [HN.out]; exact hi)]
        exact List.getElem_mem _
      have hpo := HOK.out _ hpm
      obtain ⟨p, hp⟩ : ∃ p, (l.getD i zeroN).1 = p := ⟨_, rfl⟩
      rw [hp] at y0 hpo
      have HRA1 := Lib.hid (HRA.out wr HKW.out p hpo)
      have HRB1 : Hid (∀ X : Ext wr, _) := Lib.hid (fun X : Ext wr => ext_calls (HRB.out X.val (HKW.out.trans (X.bl.mono HKW.out.size)) p))
      obtain ⟨⟨rd, re⟩, hrd⟩ : ∃ q, rf p = q := ⟨_, rfl⟩
      rw [hrd] at HRA1
      simp only [hrd] at HRB1
      dsimp only at HRA1 HRB1
      have y0' := ext_cell y0
      clear hcg hpm hpo hp hrd
      go_wp2_with (fail)
      refine HRA1.out.mono ?_
      rintro r w' ⟨rfl, rfl⟩
      go_wp2_with (fail)
      refine wp_region_ext (by kernel_rfl) (by kernel_rfl) ?_
      repeat (go_big_quiet_step (first | (go_at_call 64; refine HRB1.out _)))
      refine wpQuiet_nil ?_
      rintro w8 ⟨⟨_, hb8⟩, rfl⟩
      have HB8 := Lib.hid (HBL.out.trans (hb8.mono HBL.out.size))
      have HN8 := Lib.hid (HNA.out.below hb8)
      clear hb8 e0 e1 e2 e3 e4 e5 e6 e7 y0'
      go_wp2_with (fail)
      exact ⟨⟨i + 1, by omega, by push_cast; rfl, HB8.out, HN8.out⟩, by simp [intOf]; omega⟩
    · have hi1 : ¬ (i : Int) < (n : Int) := by omega
      have HRA1 := Lib.hid (HRA.out wr HKW.out noSuch hns)
      have HRB1 := Lib.hid (HRB.out wr HKW.out noSuch)
      obtain ⟨⟨rd, re⟩, hrd⟩ : ∃ q, rf noSuch = q := ⟨_, rfl⟩
      rw [hrd] at HRA1 HRB1
      dsimp only at HRA1 HRB1
      unfold noSuch at HRA1 HRB1
      obtain ⟨c0, c1', c2', c3, c4, c5, c6, c7⟩ := KC.out _ HBL.out
      clear hrd e0 e1 e2 e3 e4 e5 e6 e7
      go_wp2_with (fail)
      refine HRA1.out.mono ?_
      rintro r w' ⟨rfl, rfl⟩
      go_wp2_with (fail)
      refine HRB1.out.mono ?_
      rintro r w8 ⟨rfl, hb8⟩
      go_wp2_with (fail)
      go_ret
      exact ⟨rfl, HKW.out.trans (hb8.mono HKW.out.size)⟩
end Go.Proofs.Ytjgiohlkpenipaa
