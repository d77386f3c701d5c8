/- Contract of model.Do, for each kind of event. Conditions: as each theorem states them. -/
import Derived.Test.YtfojblbnhapedaaGreatDoorP7
namespace Go.Proofs.YtfojblbnhapedaaGreatDoor
open Go.RowKit Go.Maps
set_option linter.unusedVariables false
set_option linter.unusedSimpArgs false

theorem plain_len (L : List Pn) : (plain L).length = L.length := by unfold plain; rw [List.length_map]
theorem plain_mem {L : List Pn} {x : Pn} (h : x ∈ L) : (x.p, x.vs) ∈ plain L := List.mem_map.2 ⟨x, h, rfl⟩
theorem passO_len (was now : Int) (L : PL) : (passO was now L).length ≤ L.length := by
  unfold passO
  rw [List.length_map, (sortP_perm _).length_eq, List.length_map]
  exact List.length_filter_le _ _
set_option maxRecDepth 100000 in
set_option maxHeartbeats 16000000 in
theorem do_mark (B : Lo) (M : Md) (e : Ev) (w : World) (F : Int → List Int → ByteArray) (okT : Int → List Int → Prop) (h : MdAt w B M) (H : DoH w B M F okT e) (hk : e.k = 2) (hc : evB M.j.sources e ∧ evK e) : Calls Tryz.prog 24 #[ptrV B.bm, evV e] w (DoR w B M F e) := by
  have hb := bl_alloc (Below.refl w.heap.size w) (Obj.cells #[.int .i64 e.k, .int .i64 e.src, .int .i64 e.t, .string e.key, .int .i64 e.v] 26)
  have HB := Lib.hid hb
  have hn := heap_alloc_new w (Obj.cells #[.int .i64 e.k, .int .i64 e.src, .int .i64 e.t, .string e.key, .int .i64 e.v] 26)
  have hm := h.below hb
  have HCK : Hid (∀ X : Ext (w.alloc (Obj.cells #[.int .i64 e.k, .int .i64 e.src, .int .i64 e.t, .string e.key, .int .i64 e.v] 26)), Calls Tryz.prog 16 #[jbV M.j, evV e] X.val fun r w' => r = .returned (.int .i64 0) ∧ Below X.val.heap.size X.val w') := Lib.hid (fun X => by
    have h1 := check_ok M.j e X.val (hm.ops.below X.bl) H.ok.cl H.ok.cb H.ok.job H.key
    rw [if_pos hc] at h1
    exact h1)
  have HN := Lib.hid hn
  have HM := Lib.hid hm
  have HH := Lib.hid H
  have HC := Lib.hid hc
  have HLONG : Hid (¬ M.long e) := Lib.hid (fun hl => by have := hl.1; omega)
  have HOPA : Hid (∀ a, M.j.A = some a → a.block < w.heap.size) := Lib.hid (fun a ha => (h.opa a ha).1)
  have HREC : Hid (M.rec_ e = (plain M.L, [])) := Lib.hid (by unfold Md.rec_; rw [if_neg (by omega)])
  have HMK2 : Hid (M.mk2 e = (M.mks.told e.src e.t).2) := Lib.hid (by unfold Md.mk2; rw [if_neg (by omega), if_pos hk])
  have HDR2 : Hid (M.dr2 e = M.dr) := Lib.hid (by unfold Md.dr2; rw [if_neg (by omega)])
  obtain ⟨k, src, t, key, v⟩ := e
  obtain ⟨⟨gr, so, bo, la, l, A, c⟩, mks, L, dr⟩ := M
  unfold ptrV evV jbV at *
  dsimp only at *
  subst hk
  clear h H hc hb hn hm
  go_enter Tryz.func24, Tryz.ntmps24
  have m5 := HM.out.c 5
  have ml := HM.out.lt
  simp only [mdcells, List.getElem?_toArray, List.getElem?_cons_zero, List.getElem?_cons_succ] at m5
  unfold ptrV at m5
  go_wp2_with (fail)
  generalize (w.alloc (Obj.cells #[.int .i64 2, .int .i64 src, .int .i64 t, .string key, .int .i64 v] 26)) = W at *
  have m0 := ext_cell (v := .int .i64 gr) (HM.out.c 0)
  have m1 := ext_cell (v := .int .i64 so) (HM.out.c 1)
  have m2 := ext_cell (v := .int .i64 bo) (HM.out.c 2)
  have m3 := ext_cell (v := .int .i64 la) (HM.out.c 3)
  have m4 := ext_cell (v := .slice A l.length c) (HM.out.c 4)
  have e0 := ext_cell (v := .int .i64 2) (cell_of HN.out 0)
  have e1 := ext_cell (v := .int .i64 src) (cell_of HN.out 1)
  have e2 := ext_cell (v := .int .i64 t) (cell_of HN.out 2)
  have e3 := ext_cell (v := .string key) (cell_of HN.out 3)
  have e4 := ext_cell (v := .int .i64 v) (cell_of HN.out 4)
  have el := (Array.getElem?_eq_some_iff.1 HN.out).1
  clear m5
  refine wp_region_ext (by kernel_rfl) (by kernel_rfl) ?_
  repeat (go_big_quiet_step ((go_at_call 16; exact ext_calls (HCK.out _))))
  refine wpQuiet_nil ?_
  rintro w3 ⟨⟨_, hb3⟩, rfl⟩
  have HB3 := Lib.hid (bl_then HB.out hb3)
  have HM3 := Lib.hid (HM.out.below hb3)
  have HN3 := Lib.hid ((hb3.block _ el).trans HN.out)
  have q5 := HM3.out.c 5
  have ml3 := HM3.out.lt
  simp only [mdcells, List.getElem?_toArray, List.getElem?_cons_zero, List.getElem?_cons_succ] at q5
  unfold ptrV at q5
  have HNOW := Lib.hid (mnow_any B.bk mks w3 HM3.out.mks HH.out.ok.mks)
  unfold ptrV at HNOW
  have x0 := cell_of HN3.out 0
  have x1 := cell_of HN3.out 1
  have x2 := cell_of HN3.out 2
  have x3 := cell_of HN3.out 3
  have x4 := cell_of HN3.out 4
  have xl := (Array.getElem?_eq_some_iff.1 HN3.out).1
  simp only [List.getElem?_toArray, List.getElem?_cons_zero, List.getElem?_cons_succ] at x0 x1 x2 x3 x4
  clear m0 m1 m2 m3 m4 e0 e1 e2 e3 e4 hb3 HM HN HCK ml el
  go_wp2_with (fail)
  refine HNOW.out.mono ?_
  rintro r wn ⟨rfl, rfl⟩
  obtain ⟨was, hwas⟩ : ∃ was, mks.now = was := ⟨_, rfl⟩
  have HWAS := Lib.hid hwas
  rw [hwas] at HNOW ⊢
  clear hwas HNOW
  go_wp2_with (fail)
  have p5 := ext_cell (HM3.out.c 5)
  have p1 := ext_cell x1
  have p2 := ext_cell x2
  simp only [mdcells, List.getElem?_toArray, List.getElem?_cons_zero, List.getElem?_cons_succ] at p5
  unfold ptrV at p5
  clear x0 x1 x2 x3 x4 q5
  refine wp_region_quiet_tail (C := fun w' => ∃ x : Ext w3, w' = x.val) 8 (by kernel_rfl) (by kernel_rfl) ⟨⟨w3.drew, (Below.refl _ _).drew⟩, rfl⟩ ?_
  simp only [List.take_succ_cons, List.take_zero, List.drop_succ_cons, List.drop_zero]
  repeat (go_big_quiet_step (fail))
  refine wpQuiet_nil ?_
  rintro w4 ⟨⟨_, hb4⟩, rfl⟩
  have HB4 := Lib.hid (bl_then HB3.out hb4)
  have HM4 := Lib.hid (HM3.out.below hb4)
  have HSEE := Lib.hid (told_any B.bk src t mks w4 HM4.out.mks HH.out.ok.mks)
  unfold ptrV at HSEE
  clear p5 p1 p2 xl hb4 ml3
  go_wp2_with (fail)
  refine HSEE.out.mono ?_
  rintro r wz ⟨rfl, hmk, hkz⟩
  have HMZ := Lib.hid (HM4.out.setMk hmk hkz)
  rw [← HMK2.out] at HMZ
  have HKZ : Hid (Kw (S3 B) w wz) := Lib.hid ((Kw.ofBelow HB4.out).trans (hkz.mono (fun b _ hb => .inr (.inl hb))))
  have HOZ : Hid (wz.ownsRow w.heap.size 56 6 (.slice none 0 0) (Md.rec_ (⟨⟨gr, so, bo, la, l, A, c⟩, mks, L, dr⟩ : Md) ⟨2, src, t, key, v⟩).2.length (outcells F (⟨⟨gr, so, bo, la, l, A, c⟩, mks, L, dr⟩ : Md).aggAt true (Md.rec_ (⟨⟨gr, so, bo, la, l, A, c⟩, mks, L, dr⟩ : Md) ⟨2, src, t, key, v⟩).2)) := Lib.hid (by rw [HREC.out]; exact ⟨rfl, .inl ⟨rfl, rfl⟩⟩)
  have HLEN : Hid ((Md.rec_ (⟨⟨gr, so, bo, la, l, A, c⟩, mks, L, dr⟩ : Md) ⟨2, src, t, key, v⟩).2.length + (Md.o2 (⟨⟨gr, so, bo, la, l, A, c⟩, mks, L, dr⟩ : Md) ⟨2, src, t, key, v⟩).length ≤ 4000000) := Lib.hid (by
    have h1 := passO_len mks.now (Md.mk2 (⟨⟨gr, so, bo, la, l, A, c⟩, mks, L, dr⟩ : Md) ⟨2, src, t, key, v⟩).now (Md.rec_ (⟨⟨gr, so, bo, la, l, A, c⟩, mks, L, dr⟩ : Md) ⟨2, src, t, key, v⟩).1
    have h2 := HH.out.ol.len
    unfold Md.Lp at h2
    rw [List.length_map] at h2
    unfold Md.o2
    rw [HREC.out] at h1 ⊢
    rw [plain_len] at h1
    dsimp only at *
    simp only [List.length_nil]
    omega)
  have HPAS : Hid (Calls Tryz.prog 43 #[.pointer (some ⟨B.bm, 0, none⟩), .int .i64 was] wz (PasR wz B { (⟨⟨gr, so, bo, la, l, A, c⟩, mks, L, dr⟩ : Md) with mks := Md.mk2 (⟨⟨gr, so, bo, la, l, A, c⟩, mks, L, dr⟩ : Md) ⟨2, src, t, key, v⟩, dr := Md.dr2 (⟨⟨gr, so, bo, la, l, A, c⟩, mks, L, dr⟩ : Md) ⟨2, src, t, key, v⟩ } F was)) := Lib.hid (by
    have hnd : (L.map (·.p)).Nodup := by
      have h1 := HH.out.ol.nd
      rw [Md.Lp_eq] at h1
      exact h1
    have h2 := HH.out.ol.len
    unfold Md.Lp at h2
    rw [List.length_map] at h2
    have hb2 := HH.out.bd HC.out.1 HC.out.2 HLONG.out
    have hk2 := HH.out.ok2 HC.out.1 HC.out.2 HLONG.out
    rw [HREC.out] at hb2
    unfold Md.o2 at hk2
    rw [HREC.out] at hk2
    dsimp only at h2 hb2 hk2 hnd
    have okm : OkM (Md.mk2 (⟨⟨gr, so, bo, la, l, A, c⟩, mks, L, dr⟩ : Md) ⟨2, src, t, key, v⟩) := by rw [HMK2.out]; exact HH.out.ok.mks.told src t
    rw [HDR2.out]
    exact passes_any B _ was wz F okT HMZ.out okm HH.out.ok.late hnd (by dsimp only; omega) (fun x hx => (hb2 _ (plain_mem hx)).1) (fun x hx => (hb2 _ (plain_mem hx)).2) (HH.out.told.kw HKZ.out) (by rw [← HWAS.out]; exact hk2))
  clear hmk hkz HSEE
  go_wp2_with (fail)
  refine HPAS.out.mono ?_
  rintro r w6 ⟨v6, L6, rfl, ho6, hpl6, hm6, hk6⟩
  have HO6 := Lib.hid ho6
  have HM6 := Lib.hid hm6
  have HK6 := Lib.hid hk6
  have HPL6 := Lib.hid hpl6
  have HOZ6 := Lib.hid (own_kwB HOZ.out hk6 (not_map HMZ.out.mapc))
  obtain ⟨n1, hn1⟩ : ∃ n1, (Md.rec_ (⟨⟨gr, so, bo, la, l, A, c⟩, mks, L, dr⟩ : Md) ⟨2, src, t, key, v⟩).2.length = n1 := ⟨_, rfl⟩
  obtain ⟨n2, hn2⟩ : ∃ n2, (Md.o2 (⟨⟨gr, so, bo, la, l, A, c⟩, mks, L, dr⟩ : Md) ⟨2, src, t, key, v⟩).length = n2 := ⟨_, rfl⟩
  have HO7 : Hid (w6.ownsRow wz.heap.size 56 6 v6 n2 (outcells F (⟨⟨gr, so, bo, la, l, A, c⟩, mks, L, dr⟩ : Md).aggAt false (Md.o2 (⟨⟨gr, so, bo, la, l, A, c⟩, mks, L, dr⟩ : Md) ⟨2, src, t, key, v⟩))) := Lib.hid (by rw [← hn2]; unfold Md.o2; rw [HREC.out, HWAS.out]; exact HO6.out)
  have HOZ7 : Hid (w6.ownsRow w.heap.size 56 6 (.slice none 0 0) n1 (outcells F (⟨⟨gr, so, bo, la, l, A, c⟩, mks, L, dr⟩ : Md).aggAt true (Md.rec_ (⟨⟨gr, so, bo, la, l, A, c⟩, mks, L, dr⟩ : Md) ⟨2, src, t, key, v⟩).2)) := Lib.hid (by rw [← hn1]; exact HOZ6.out)
  have HN1 := Lib.hid hn1
  have HN2 := Lib.hid hn2
  have hsum : n1 + n2 ≤ 4000000 := by
    have h1 := HLEN.out
    rw [hn1, hn2] at h1
    exact h1
  have hbz : w.heap.size ≤ w6.heap.size := Nat.le_trans HKZ.out.size HK6.out.size
  have HON := Lib.hid (outcells_one F (⟨⟨gr, so, bo, la, l, A, c⟩, mks, L, dr⟩ : Md).aggAt false (Md.o2 (⟨⟨gr, so, bo, la, l, A, c⟩, mks, L, dr⟩ : Md) ⟨2, src, t, key, v⟩))
  clear ho6 hm6 hk6 hpl6 hn1 hn2 HOZ6 HO6
  go_wp2_with (at_builtin; refine wpList_append_row _ rfl _ _ 50 56 6 64 (.agg #[.int .i64 0, .string ⟨#[]⟩, .int .i64 0, .int .i64 0, .string ⟨#[]⟩, .bool false]) und50 i56 rfl (by decide) (by decide) rfl w.heap.size wz.heap.size n1 (.slice none 0 0) _ rfl HOZ7.out v6 n2 _ rfl HO7.out HON.out hsum hbz ?_)
  intro v7 w7 ho7 hg7 hl7
  have HM7 := Lib.hid (HM6.out.own HOZ7.out hg7 (by decide) (by decide) (fun a ha => HOPA.out a ha) (.inl (by decide)))
  have HK7 := Lib.hid ((HKZ.out.trans (HK6.out.mono (fun b _ hb => .inr (.inr hb)))).grownNew hg7 (fun b hb => (HOZ7.out.lt b hb).1))
  have HO8 := Lib.hid ho7
  clear ho7 hg7 hl7
  go_wp2_with (fail)
  go_ret2
  unfold DoR
  rw [if_neg (fun h => h HC.out), if_neg HLONG.out]
  exact ⟨v7, L6, rfl, by rw [HN1.out, HN2.out]; exact HO8.out, by rw [HPL6.out]; unfold Md.l2; rw [HREC.out], HM7.out, HK7.out⟩
set_option maxRecDepth 100000 in
set_option maxHeartbeats 16000000 in
theorem do_idle (B : Lo) (M : Md) (e : Ev) (w : World) (F : Int → List Int → ByteArray) (okT : Int → List Int → Prop) (h : MdAt w B M) (H : DoH w B M F okT e) (hk : e.k = 3) (hc : evB M.j.sources e ∧ evK e) : Calls Tryz.prog 24 #[ptrV B.bm, evV e] w (DoR w B M F e) := by
  have hb := bl_alloc (Below.refl w.heap.size w) (Obj.cells #[.int .i64 e.k, .int .i64 e.src, .int .i64 e.t, .string e.key, .int .i64 e.v] 26)
  have HB := Lib.hid hb
  have hn := heap_alloc_new w (Obj.cells #[.int .i64 e.k, .int .i64 e.src, .int .i64 e.t, .string e.key, .int .i64 e.v] 26)
  have hm := h.below hb
  have HCK : Hid (∀ X : Ext (w.alloc (Obj.cells #[.int .i64 e.k, .int .i64 e.src, .int .i64 e.t, .string e.key, .int .i64 e.v] 26)), Calls Tryz.prog 16 #[jbV M.j, evV e] X.val fun r w' => r = .returned (.int .i64 0) ∧ Below X.val.heap.size X.val w') := Lib.hid (fun X => by
    have h1 := check_ok M.j e X.val (hm.ops.below X.bl) H.ok.cl H.ok.cb H.ok.job H.key
    rw [if_pos hc] at h1
    exact h1)
  have HN := Lib.hid hn
  have HM := Lib.hid hm
  have HH := Lib.hid H
  have HC := Lib.hid hc
  have HLONG : Hid (¬ M.long e) := Lib.hid (fun hl => by have := hl.1; omega)
  have HOPA : Hid (∀ a, M.j.A = some a → a.block < w.heap.size) := Lib.hid (fun a ha => (h.opa a ha).1)
  have HREC : Hid (M.rec_ e = (plain M.L, [])) := Lib.hid (by unfold Md.rec_; rw [if_neg (by omega)])
  have HMK2 : Hid (M.mk2 e = (M.mks.idle e.src).2) := Lib.hid (by unfold Md.mk2; rw [if_neg (by omega), if_neg (by omega)])
  have HDR2 : Hid (M.dr2 e = M.dr) := Lib.hid (by unfold Md.dr2; rw [if_neg (by omega)])
  obtain ⟨k, src, t, key, v⟩ := e
  obtain ⟨⟨gr, so, bo, la, l, A, c⟩, mks, L, dr⟩ := M
  unfold ptrV evV jbV at *
  dsimp only at *
  subst hk
  clear h H hc hb hn hm
  go_enter Tryz.func24, Tryz.ntmps24
  have m5 := HM.out.c 5
  have ml := HM.out.lt
  simp only [mdcells, List.getElem?_toArray, List.getElem?_cons_zero, List.getElem?_cons_succ] at m5
  unfold ptrV at m5
  go_wp2_with (fail)
  generalize (w.alloc (Obj.cells #[.int .i64 3, .int .i64 src, .int .i64 t, .string key, .int .i64 v] 26)) = W at *
  have m0 := ext_cell (v := .int .i64 gr) (HM.out.c 0)
  have m1 := ext_cell (v := .int .i64 so) (HM.out.c 1)
  have m2 := ext_cell (v := .int .i64 bo) (HM.out.c 2)
  have m3 := ext_cell (v := .int .i64 la) (HM.out.c 3)
  have m4 := ext_cell (v := .slice A l.length c) (HM.out.c 4)
  have e0 := ext_cell (v := .int .i64 3) (cell_of HN.out 0)
  have e1 := ext_cell (v := .int .i64 src) (cell_of HN.out 1)
  have e2 := ext_cell (v := .int .i64 t) (cell_of HN.out 2)
  have e3 := ext_cell (v := .string key) (cell_of HN.out 3)
  have e4 := ext_cell (v := .int .i64 v) (cell_of HN.out 4)
  have el := (Array.getElem?_eq_some_iff.1 HN.out).1
  clear m5
  refine wp_region_ext (by kernel_rfl) (by kernel_rfl) ?_
  repeat (go_big_quiet_step ((go_at_call 16; exact ext_calls (HCK.out _))))
  refine wpQuiet_nil ?_
  rintro w3 ⟨⟨_, hb3⟩, rfl⟩
  have HB3 := Lib.hid (bl_then HB.out hb3)
  have HM3 := Lib.hid (HM.out.below hb3)
  have HN3 := Lib.hid ((hb3.block _ el).trans HN.out)
  have q5 := HM3.out.c 5
  have ml3 := HM3.out.lt
  simp only [mdcells, List.getElem?_toArray, List.getElem?_cons_zero, List.getElem?_cons_succ] at q5
  unfold ptrV at q5
  have HNOW := Lib.hid (mnow_any B.bk mks w3 HM3.out.mks HH.out.ok.mks)
  unfold ptrV at HNOW
  have x0 := cell_of HN3.out 0
  have x1 := cell_of HN3.out 1
  have x2 := cell_of HN3.out 2
  have x3 := cell_of HN3.out 3
  have x4 := cell_of HN3.out 4
  have xl := (Array.getElem?_eq_some_iff.1 HN3.out).1
  simp only [List.getElem?_toArray, List.getElem?_cons_zero, List.getElem?_cons_succ] at x0 x1 x2 x3 x4
  clear m0 m1 m2 m3 m4 e0 e1 e2 e3 e4 hb3 HM HN HCK ml el
  go_wp2_with (fail)
  refine HNOW.out.mono ?_
  rintro r wn ⟨rfl, rfl⟩
  obtain ⟨was, hwas⟩ : ∃ was, mks.now = was := ⟨_, rfl⟩
  have HWAS := Lib.hid hwas
  rw [hwas] at HNOW ⊢
  clear hwas HNOW
  go_wp2_with (fail)
  have p5 := ext_cell (HM3.out.c 5)
  have p1 := ext_cell x1
  have p2 := ext_cell x2
  simp only [mdcells, List.getElem?_toArray, List.getElem?_cons_zero, List.getElem?_cons_succ] at p5
  unfold ptrV at p5
  clear x0 x1 x2 x3 x4 q5
  refine wp_region_quiet_tail (C := fun w' => ∃ x : Ext w3, w' = x.val) 6 (by kernel_rfl) (by kernel_rfl) ⟨⟨w3.drew, (Below.refl _ _).drew⟩, rfl⟩ ?_
  simp only [List.take_succ_cons, List.take_zero, List.drop_succ_cons, List.drop_zero]
  repeat (go_big_quiet_step (fail))
  refine wpQuiet_nil ?_
  rintro w4 ⟨⟨_, hb4⟩, rfl⟩
  have HB4 := Lib.hid (bl_then HB3.out hb4)
  have HM4 := Lib.hid (HM3.out.below hb4)
  have HSEE := Lib.hid (idle_any B.bk src mks w4 HM4.out.mks HH.out.ok.mks)
  unfold ptrV at HSEE
  clear p5 p1 p2 xl hb4 ml3
  go_wp2_with (fail)
  refine HSEE.out.mono ?_
  rintro r wz ⟨rfl, hmk, hkz⟩
  have HMZ := Lib.hid (HM4.out.setMk hmk hkz)
  rw [← HMK2.out] at HMZ
  have HKZ : Hid (Kw (S3 B) w wz) := Lib.hid ((Kw.ofBelow HB4.out).trans (hkz.mono (fun b _ hb => .inr (.inl hb))))
  have HOZ : Hid (wz.ownsRow w.heap.size 56 6 (.slice none 0 0) (Md.rec_ (⟨⟨gr, so, bo, la, l, A, c⟩, mks, L, dr⟩ : Md) ⟨3, src, t, key, v⟩).2.length (outcells F (⟨⟨gr, so, bo, la, l, A, c⟩, mks, L, dr⟩ : Md).aggAt true (Md.rec_ (⟨⟨gr, so, bo, la, l, A, c⟩, mks, L, dr⟩ : Md) ⟨3, src, t, key, v⟩).2)) := Lib.hid (by rw [HREC.out]; exact ⟨rfl, .inl ⟨rfl, rfl⟩⟩)
  have HLEN : Hid ((Md.rec_ (⟨⟨gr, so, bo, la, l, A, c⟩, mks, L, dr⟩ : Md) ⟨3, src, t, key, v⟩).2.length + (Md.o2 (⟨⟨gr, so, bo, la, l, A, c⟩, mks, L, dr⟩ : Md) ⟨3, src, t, key, v⟩).length ≤ 4000000) := Lib.hid (by
    have h1 := passO_len mks.now (Md.mk2 (⟨⟨gr, so, bo, la, l, A, c⟩, mks, L, dr⟩ : Md) ⟨3, src, t, key, v⟩).now (Md.rec_ (⟨⟨gr, so, bo, la, l, A, c⟩, mks, L, dr⟩ : Md) ⟨3, src, t, key, v⟩).1
    have h2 := HH.out.ol.len
    unfold Md.Lp at h2
    rw [List.length_map] at h2
    unfold Md.o2
    rw [HREC.out] at h1 ⊢
    rw [plain_len] at h1
    dsimp only at *
    simp only [List.length_nil]
    omega)
  have HPAS : Hid (Calls Tryz.prog 43 #[.pointer (some ⟨B.bm, 0, none⟩), .int .i64 was] wz (PasR wz B { (⟨⟨gr, so, bo, la, l, A, c⟩, mks, L, dr⟩ : Md) with mks := Md.mk2 (⟨⟨gr, so, bo, la, l, A, c⟩, mks, L, dr⟩ : Md) ⟨3, src, t, key, v⟩, dr := Md.dr2 (⟨⟨gr, so, bo, la, l, A, c⟩, mks, L, dr⟩ : Md) ⟨3, src, t, key, v⟩ } F was)) := Lib.hid (by
    have hnd : (L.map (·.p)).Nodup := by
      have h1 := HH.out.ol.nd
      rw [Md.Lp_eq] at h1
      exact h1
    have h2 := HH.out.ol.len
    unfold Md.Lp at h2
    rw [List.length_map] at h2
    have hb2 := HH.out.bd HC.out.1 HC.out.2 HLONG.out
    have hk2 := HH.out.ok2 HC.out.1 HC.out.2 HLONG.out
    rw [HREC.out] at hb2
    unfold Md.o2 at hk2
    rw [HREC.out] at hk2
    dsimp only at h2 hb2 hk2 hnd
    have okm : OkM (Md.mk2 (⟨⟨gr, so, bo, la, l, A, c⟩, mks, L, dr⟩ : Md) ⟨3, src, t, key, v⟩) := by rw [HMK2.out]; exact HH.out.ok.mks.idle src
    rw [HDR2.out]
    exact passes_any B _ was wz F okT HMZ.out okm HH.out.ok.late hnd (by dsimp only; omega) (fun x hx => (hb2 _ (plain_mem hx)).1) (fun x hx => (hb2 _ (plain_mem hx)).2) (HH.out.told.kw HKZ.out) (by rw [← HWAS.out]; exact hk2))
  clear hmk hkz HSEE
  go_wp2_with (fail)
  refine HPAS.out.mono ?_
  rintro r w6 ⟨v6, L6, rfl, ho6, hpl6, hm6, hk6⟩
  have HO6 := Lib.hid ho6
  have HM6 := Lib.hid hm6
  have HK6 := Lib.hid hk6
  have HPL6 := Lib.hid hpl6
  have HOZ6 := Lib.hid (own_kwB HOZ.out hk6 (not_map HMZ.out.mapc))
  obtain ⟨n1, hn1⟩ : ∃ n1, (Md.rec_ (⟨⟨gr, so, bo, la, l, A, c⟩, mks, L, dr⟩ : Md) ⟨3, src, t, key, v⟩).2.length = n1 := ⟨_, rfl⟩
  obtain ⟨n2, hn2⟩ : ∃ n2, (Md.o2 (⟨⟨gr, so, bo, la, l, A, c⟩, mks, L, dr⟩ : Md) ⟨3, src, t, key, v⟩).length = n2 := ⟨_, rfl⟩
  have HO7 : Hid (w6.ownsRow wz.heap.size 56 6 v6 n2 (outcells F (⟨⟨gr, so, bo, la, l, A, c⟩, mks, L, dr⟩ : Md).aggAt false (Md.o2 (⟨⟨gr, so, bo, la, l, A, c⟩, mks, L, dr⟩ : Md) ⟨3, src, t, key, v⟩))) := Lib.hid (by rw [← hn2]; unfold Md.o2; rw [HREC.out, HWAS.out]; exact HO6.out)
  have HOZ7 : Hid (w6.ownsRow w.heap.size 56 6 (.slice none 0 0) n1 (outcells F (⟨⟨gr, so, bo, la, l, A, c⟩, mks, L, dr⟩ : Md).aggAt true (Md.rec_ (⟨⟨gr, so, bo, la, l, A, c⟩, mks, L, dr⟩ : Md) ⟨3, src, t, key, v⟩).2)) := Lib.hid (by rw [← hn1]; exact HOZ6.out)
  have HN1 := Lib.hid hn1
  have HN2 := Lib.hid hn2
  have hsum : n1 + n2 ≤ 4000000 := by
    have h1 := HLEN.out
    rw [hn1, hn2] at h1
    exact h1
  have hbz : w.heap.size ≤ w6.heap.size := Nat.le_trans HKZ.out.size HK6.out.size
  have HON := Lib.hid (outcells_one F (⟨⟨gr, so, bo, la, l, A, c⟩, mks, L, dr⟩ : Md).aggAt false (Md.o2 (⟨⟨gr, so, bo, la, l, A, c⟩, mks, L, dr⟩ : Md) ⟨3, src, t, key, v⟩))
  clear ho6 hm6 hk6 hpl6 hn1 hn2 HOZ6 HO6
  go_wp2_with (at_builtin; refine wpList_append_row _ rfl _ _ 50 56 6 64 (.agg #[.int .i64 0, .string ⟨#[]⟩, .int .i64 0, .int .i64 0, .string ⟨#[]⟩, .bool false]) und50 i56 rfl (by decide) (by decide) rfl w.heap.size wz.heap.size n1 (.slice none 0 0) _ rfl HOZ7.out v6 n2 _ rfl HO7.out HON.out hsum hbz ?_)
  intro v7 w7 ho7 hg7 hl7
  have HM7 := Lib.hid (HM6.out.own HOZ7.out hg7 (by decide) (by decide) (fun a ha => HOPA.out a ha) (.inl (by decide)))
  have HK7 := Lib.hid ((HKZ.out.trans (HK6.out.mono (fun b _ hb => .inr (.inr hb)))).grownNew hg7 (fun b hb => (HOZ7.out.lt b hb).1))
  have HO8 := Lib.hid ho7
  clear ho7 hg7 hl7
  go_wp2_with (fail)
  go_ret2
  unfold DoR
  rw [if_neg (fun h => h HC.out), if_neg HLONG.out]
  exact ⟨v7, L6, rfl, by rw [HN1.out, HN2.out]; exact HO8.out, by rw [HPL6.out]; unfold Md.l2; rw [HREC.out], HM7.out, HK7.out⟩
set_option maxRecDepth 100000 in
set_option maxHeartbeats 16000000 in
theorem do_rec (B : Lo) (M : Md) (e : Ev) (w : World) (F : Int → List Int → ByteArray) (okT : Int → List Int → Prop) (h : MdAt w B M) (H : DoH w B M F okT e) (hk : e.k = 1) (hc : evB M.j.sources e ∧ evK e) : Calls Tryz.prog 24 #[ptrV B.bm, evV e] w (DoR w B M F e) := by
  have hb := bl_alloc (Below.refl w.heap.size w) (Obj.cells #[.int .i64 e.k, .int .i64 e.src, .int .i64 e.t, .string e.key, .int .i64 e.v] 26)
  have HB := Lib.hid hb
  have hn := heap_alloc_new w (Obj.cells #[.int .i64 e.k, .int .i64 e.src, .int .i64 e.t, .string e.key, .int .i64 e.v] 26)
  have hm := h.below hb
  have HCK : Hid (∀ X : Ext (w.alloc (Obj.cells #[.int .i64 e.k, .int .i64 e.src, .int .i64 e.t, .string e.key, .int .i64 e.v] 26)), Calls Tryz.prog 16 #[jbV M.j, evV e] X.val fun r w' => r = .returned (.int .i64 0) ∧ Below X.val.heap.size X.val w') := Lib.hid (fun X => by
    have h1 := check_ok M.j e X.val (hm.ops.below X.bl) H.ok.cl H.ok.cb H.ok.job H.key
    rw [if_pos hc] at h1
    exact h1)
  have HN := Lib.hid hn
  have HM := Lib.hid hm
  have HH := Lib.hid H
  have HC := Lib.hid hc
  have HLG : Hid (M.long e ↔ 1024 < (M.L.length : Int) + cntC (M.chs e)) := Lib.hid ⟨fun hl => hl.2, fun hl => ⟨hk, hl⟩⟩
  have HOPA : Hid (∀ a, M.j.A = some a → a.block < w.heap.size) := Lib.hid (fun a ha => (h.opa a ha).1)
  have HREC : Hid (M.rec_ e = recF M.mks.now e.v (M.chs e) (plain M.L)) := Lib.hid (by unfold Md.rec_; rw [if_pos hk])
  have HMK2 : Hid (M.mk2 e = (M.mks.see e.src e.t).2.2) := Lib.hid (by unfold Md.mk2; rw [if_pos hk])
  have HDR2 : Hid (M.dr2 e = M.dr + (drO M e.t M.mks.now M.j.ops.length : Nat)) := Lib.hid (by unfold Md.dr2; rw [if_pos hk])
  have HCL := Lib.hid (chs_len M e H.ok hc.1.2.2.1 hc.1.2.2.2)
  have HDL := Lib.hid (drO_bd M e H.ok hc.1.2.2.1 hc.1.2.2.2)
  have HCHA := Lib.hid (fun (W : World) (hM : MdAt W B M) => changes_any B M e M.mks.now W hM H.ok H.ol hc.1.2.2.1 hc.1.2.2.2 H.key)
  have HNDL : Hid (ND (plain M.L)) := Lib.hid (by
    unfold ND
    rw [plain_keys, ← Md.Lp_eq]
    exact H.ol.nd)
  have HLL : Hid (M.L.length ≤ 1024) := Lib.hid (by
    have h2 := H.ol.len
    unfold Md.Lp at h2
    rw [List.length_map] at h2
    exact h2)
  have HRA := Lib.hid (fun (W : World) (hM : MdAt W B M) (hK : Kw (S3 B) w W) (hlong : ¬ M.long e → ∀ o ∈ (recF M.mks.now e.v (M.chs e) (plain M.L)).2, okT (M.aggAt o.1) o.2) => (trivial : True))
  obtain ⟨k, src, t, key, v⟩ := e
  obtain ⟨⟨gr, so, bo, la, l, A, c⟩, mks, L, dr⟩ := M
  unfold ptrV evV jbV at *
  dsimp only at *
  subst hk
  clear h H hc hb hn hm
  go_enter Tryz.func24, Tryz.ntmps24
  have m5 := HM.out.c 5
  have ml := HM.out.lt
  simp only [mdcells, List.getElem?_toArray, List.getElem?_cons_zero, List.getElem?_cons_succ] at m5
  unfold ptrV at m5
  go_wp2_with (fail)
  generalize (w.alloc (Obj.cells #[.int .i64 1, .int .i64 src, .int .i64 t, .string key, .int .i64 v] 26)) = W at *
  have m0 := ext_cell (v := .int .i64 gr) (HM.out.c 0)
  have m1 := ext_cell (v := .int .i64 so) (HM.out.c 1)
  have m2 := ext_cell (v := .int .i64 bo) (HM.out.c 2)
  have m3 := ext_cell (v := .int .i64 la) (HM.out.c 3)
  have m4 := ext_cell (v := .slice A l.length c) (HM.out.c 4)
  have e0 := ext_cell (v := .int .i64 1) (cell_of HN.out 0)
  have e1 := ext_cell (v := .int .i64 src) (cell_of HN.out 1)
  have e2 := ext_cell (v := .int .i64 t) (cell_of HN.out 2)
  have e3 := ext_cell (v := .string key) (cell_of HN.out 3)
  have e4 := ext_cell (v := .int .i64 v) (cell_of HN.out 4)
  have el := (Array.getElem?_eq_some_iff.1 HN.out).1
  clear m5
  refine wp_region_ext (by kernel_rfl) (by kernel_rfl) ?_
  repeat (go_big_quiet_step ((go_at_call 16; exact ext_calls (HCK.out _))))
  refine wpQuiet_nil ?_
  rintro w3 ⟨⟨_, hb3⟩, rfl⟩
  have HB3 := Lib.hid (bl_then HB.out hb3)
  have HM3 := Lib.hid (HM.out.below hb3)
  have HN3 := Lib.hid ((hb3.block _ el).trans HN.out)
  have q5 := HM3.out.c 5
  have ml3 := HM3.out.lt
  simp only [mdcells, List.getElem?_toArray, List.getElem?_cons_zero, List.getElem?_cons_succ] at q5
  unfold ptrV at q5
  have HNOW := Lib.hid (mnow_any B.bk mks w3 HM3.out.mks HH.out.ok.mks)
  unfold ptrV at HNOW
  have x0 := cell_of HN3.out 0
  have x1 := cell_of HN3.out 1
  have x2 := cell_of HN3.out 2
  have x3 := cell_of HN3.out 3
  have x4 := cell_of HN3.out 4
  have xl := (Array.getElem?_eq_some_iff.1 HN3.out).1
  simp only [List.getElem?_toArray, List.getElem?_cons_zero, List.getElem?_cons_succ] at x0 x1 x2 x3 x4
  clear m0 m1 m2 m3 m4 e0 e1 e2 e3 e4 hb3 HM HN HCK ml el
  go_wp2_with (fail)
  refine HNOW.out.mono ?_
  rintro r wn ⟨rfl, rfl⟩
  obtain ⟨was, hwas⟩ : ∃ was, mks.now = was := ⟨_, rfl⟩
  have HWAS := Lib.hid hwas
  rw [hwas] at HNOW ⊢
  clear hwas HNOW
  go_wp2_with (fail)
  by_cases hlg : Md.long (⟨⟨gr, so, bo, la, l, A, c⟩, mks, L, dr⟩ : Md) ⟨1, src, t, key, v⟩
  · have HLG2 : Hid (Md.long (⟨⟨gr, so, bo, la, l, A, c⟩, mks, L, dr⟩ : Md) ⟨1, src, t, key, v⟩) := Lib.hid hlg
    have HRX : Hid (Calls Tryz.prog 39 #[.pointer (some ⟨B.bm, 0, none⟩), .agg #[.int .i64 1, .int .i64 src, .int .i64 t, .string key, .int .i64 v], .int .i64 was] w3 fun r w' => r = .returned (.tuple #[.slice none 0 0, .int .i64 3]) ∧ Below w3.heap.size w3 w') := Lib.hid (by
      rw [← HWAS.out]
      refine (record_any B (⟨⟨gr, so, bo, la, l, A, c⟩, mks, L, dr⟩ : Md) ⟨1, src, t, key, v⟩ mks.now w3 F okT (Md.chs (⟨⟨gr, so, bo, la, l, A, c⟩, mks, L, dr⟩ : Md) ⟨1, src, t, key, v⟩) _ HM3.out HNDL.out HLL.out (by have := HH.out.tot; dsimp only at *; omega) (by have := HCL.out; omega) (by have := HDL.out; omega) HH.out.dr (fun c hc => HH.out.good HC.out.1 HC.out.2 rfl c hc) (HH.out.told.kw (Kw.ofBelow HB3.out)) (fun hn => absurd (HLG.out.1 hlg) hn) (fun W hb => (HCHA.out W (HM3.out.below hb)).mono fun r w' ⟨v, xs, h1, h2, h3, h4⟩ => ⟨v, xs, h1, h2, h3, h4⟩)).mono fun r w' hr => ?_
      unfold RecR at hr
      rw [if_pos (HLG.out.1 hlg)] at hr
      exact hr)
    clear hlg HCHA HRA HLG HREC HMK2 HDR2
    go_wp2_with (fail)
    refine HRX.out.mono ?_
    rintro r w4 ⟨rfl, hb4⟩
    have HB4 := Lib.hid (bl_then HB3.out hb4)
    clear hb4
    go_wp2_with (fail)
    go_ret2
    unfold DoR
    rw [if_neg (fun h => h HC.out), if_pos HLG2.out]
    exact ⟨rfl, HB4.out⟩
  · have HLONG : Hid (¬ Md.long (⟨⟨gr, so, bo, la, l, A, c⟩, mks, L, dr⟩ : Md) ⟨1, src, t, key, v⟩) := Lib.hid hlg
    have HRX : Hid (Calls Tryz.prog 39 #[.pointer (some ⟨B.bm, 0, none⟩), .agg #[.int .i64 1, .int .i64 src, .int .i64 t, .string key, .int .i64 v], .int .i64 was] w3 (RecR w3 B (⟨⟨gr, so, bo, la, l, A, c⟩, mks, L, dr⟩ : Md) F (Md.chs (⟨⟨gr, so, bo, la, l, A, c⟩, mks, L, dr⟩ : Md) ⟨1, src, t, key, v⟩) mks.now v (drO (⟨⟨gr, so, bo, la, l, A, c⟩, mks, L, dr⟩ : Md) t mks.now l.length))) := Lib.hid (by
      rw [← HWAS.out]
      have hk1 := HH.out.ok1 HC.out.1 HC.out.2 HLONG.out
      rw [HREC.out] at hk1
      exact record_any B (⟨⟨gr, so, bo, la, l, A, c⟩, mks, L, dr⟩ : Md) ⟨1, src, t, key, v⟩ mks.now w3 F okT (Md.chs (⟨⟨gr, so, bo, la, l, A, c⟩, mks, L, dr⟩ : Md) ⟨1, src, t, key, v⟩) _ HM3.out HNDL.out HLL.out (by have := HH.out.tot; dsimp only at *; omega) (by have := HCL.out; omega) (by have := HDL.out; omega) HH.out.dr (fun c hc => HH.out.good HC.out.1 HC.out.2 rfl c hc) (HH.out.told.kw (Kw.ofBelow HB3.out)) (fun _ => hk1) (fun W hb => (HCHA.out W (HM3.out.below hb)).mono fun r w' ⟨v, xs, h1, h2, h3, h4⟩ => ⟨v, xs, h1, h2, h3, h4⟩))
    clear hlg HCHA HRA
    go_wp2_with (fail)
    refine HRX.out.mono ?_
    intro r w4 hrec
    unfold RecR at hrec
    rw [if_neg (fun h => HLONG.out (HLG.out.2 h))] at hrec
    obtain ⟨v4, L4, rfl, ho4, hpl4, hm4, hk4⟩ := hrec
    have HO4 := Lib.hid ho4
    have HPL4 := Lib.hid hpl4
    have HM4 := Lib.hid hm4
    have HK4 : Hid (Kw (S3 B) w w4) := Lib.hid ((Kw.ofBelow HB3.out).trans (hk4.mono (fun b _ hb => hb.elim .inl (fun h => .inr (.inr h)))))
    have HN4 := Lib.hid ((hk4.block _ xl (fun hb => by
      rcases hb with hb | hb
      · have := HM3.out.md
        rw [← hb, HN3.out] at this
        injection this with h3
        injection h3 with _ h3
        exact absurd h3 (by decide)
      · obtain ⟨es, clock, hmm⟩ := HM3.out.mapc
        rw [← hb, HN3.out] at hmm
        cases hmm)).trans HN3.out)
    clear ho4 hpl4 hm4 hk4 x0 x1 x2 x3 x4 q5 HRX
    go_wp2_with (fail)
    have p5 := ext_cell (HM4.out.c 5)
    have p1 := ext_cell (v := .int .i64 src) (cell_of HN4.out 1)
    have p2 := ext_cell (v := .int .i64 t) (cell_of HN4.out 2)
    have xl4 := (Array.getElem?_eq_some_iff.1 HN4.out).1
    have ml4 := HM4.out.lt
    simp only [mdcells, List.getElem?_toArray, List.getElem?_cons_zero, List.getElem?_cons_succ] at p5
    unfold ptrV at p5
    refine wp_region_quiet_tail (C := fun w' => ∃ x : Ext w4, w' = x.val) 8 (by kernel_rfl) (by kernel_rfl) ⟨⟨w4.drew, (Below.refl _ _).drew⟩, rfl⟩ ?_
    simp only [List.take_succ_cons, List.take_zero, List.drop_succ_cons, List.drop_zero]
    repeat (go_big_quiet_step (fail))
    refine wpQuiet_nil ?_
    rintro w5 ⟨⟨_, hb5⟩, rfl⟩
    have HK5 := Lib.hid (HK4.out.trans3 hb5)
    have HM5 := Lib.hid (HM4.out.below hb5)
    have HO5 := Lib.hid (own_below HO4.out hb5)
    have HSEE := Lib.hid (see_any B.bk src t mks w5 HM5.out.mks HH.out.ok.mks)
    unfold ptrV at HSEE
    clear p5 p1 p2 xl hb5 ml3 xl4 ml4
    go_wp2_with (fail)
    refine HSEE.out.mono ?_
    rintro r wz ⟨rfl, hmk, hkz⟩
    have HMZ := Lib.hid (HM5.out.setMk hmk hkz)
    have HKZ : Hid (Kw (S3 B) w wz) := Lib.hid (HK5.out.trans (hkz.mono (fun b _ hb => .inr (.inl hb))))
    have HOZ : Hid (wz.ownsRow w.heap.size 56 6 v4 (Md.rec_ (⟨⟨gr, so, bo, la, l, A, c⟩, mks, L, dr⟩ : Md) ⟨1, src, t, key, v⟩).2.length (outcells F (Md.aggAt (⟨⟨gr, so, bo, la, l, A, c⟩, mks, L, dr⟩ : Md)) true (Md.rec_ (⟨⟨gr, so, bo, la, l, A, c⟩, mks, L, dr⟩ : Md) ⟨1, src, t, key, v⟩).2)) := Lib.hid (by
      rw [HREC.out]
      refine own_weaken (own_kwB HO5.out hkz (fun g cur hg e => ?_)) HB3.out.size
      have h3 := HM5.out.mks
      unfold MkAt at h3
      rw [← e, hg] at h3
      injection h3 with h3
      injection h3 with _ h3
      exact absurd h3 (by decide))
    have HPR : Hid (plain L4 = (Md.rec_ (⟨⟨gr, so, bo, la, l, A, c⟩, mks, L, dr⟩ : Md) ⟨1, src, t, key, v⟩).1) := Lib.hid (by rw [HREC.out]; exact HPL4.out)
    have HLEN : Hid ((Md.rec_ (⟨⟨gr, so, bo, la, l, A, c⟩, mks, L, dr⟩ : Md) ⟨1, src, t, key, v⟩).2.length + (Md.o2 (⟨⟨gr, so, bo, la, l, A, c⟩, mks, L, dr⟩ : Md) ⟨1, src, t, key, v⟩).length ≤ 4000000) := Lib.hid (by
      have h1 := passO_len mks.now (Md.mk2 (⟨⟨gr, so, bo, la, l, A, c⟩, mks, L, dr⟩ : Md) ⟨1, src, t, key, v⟩).now (Md.rec_ (⟨⟨gr, so, bo, la, l, A, c⟩, mks, L, dr⟩ : Md) ⟨1, src, t, key, v⟩).1
      have h2 := HLL.out
      have h3 := recF_len mks.now v (Md.chs (⟨⟨gr, so, bo, la, l, A, c⟩, mks, L, dr⟩ : Md) ⟨1, src, t, key, v⟩) (plain L) _ (Nat.le_refl _)
      have h4 := recF_outs mks.now v (Md.chs (⟨⟨gr, so, bo, la, l, A, c⟩, mks, L, dr⟩ : Md) ⟨1, src, t, key, v⟩) (plain L) _ (Nat.le_refl _)
      rw [List.take_length] at h3 h4
      rw [plain_len] at h3
      have h5 := HCL.out
      unfold Md.o2
      rw [HREC.out] at h1 ⊢
      dsimp only at *
      omega)
    have HPAS : Hid (Calls Tryz.prog 43 #[.pointer (some ⟨B.bm, 0, none⟩), .int .i64 was] wz (PasR wz B { (⟨⟨gr, so, bo, la, l, A, c⟩, mks, L, dr⟩ : Md) with L := L4, mks := Md.mk2 (⟨⟨gr, so, bo, la, l, A, c⟩, mks, L, dr⟩ : Md) ⟨1, src, t, key, v⟩, dr := Md.dr2 (⟨⟨gr, so, bo, la, l, A, c⟩, mks, L, dr⟩ : Md) ⟨1, src, t, key, v⟩ } F was)) := Lib.hid (by
      have hnd : (L4.map (·.p)).Nodup := by
        have h1 := nd_rec mks.now v (Md.chs (⟨⟨gr, so, bo, la, l, A, c⟩, mks, L, dr⟩ : Md) ⟨1, src, t, key, v⟩) HNDL.out _ (Nat.le_refl _)
        rw [List.take_length] at h1
        rw [← plain_keys, HPL4.out]
        exact h1
      have h2 : L4.length ≤ 20000 := by
        have h3 := recF_len mks.now v (Md.chs (⟨⟨gr, so, bo, la, l, A, c⟩, mks, L, dr⟩ : Md) ⟨1, src, t, key, v⟩) (plain L) _ (Nat.le_refl _)
        rw [List.take_length] at h3
        have h4 : (plain L4).length = (recF mks.now v (Md.chs (⟨⟨gr, so, bo, la, l, A, c⟩, mks, L, dr⟩ : Md) ⟨1, src, t, key, v⟩) (plain L)).1.length := congrArg List.length HPL4.out
        rw [plain_len] at h3 h4
        have h5 := HCL.out
        have h6 := HLL.out
        dsimp only at *
        omega
      have hb2 := HH.out.bd HC.out.1 HC.out.2 HLONG.out
      have hk2 := HH.out.ok2 HC.out.1 HC.out.2 HLONG.out
      unfold Md.o2 at hk2
      rw [← HPR.out] at hb2 hk2
      have okm : OkM (Md.mk2 (⟨⟨gr, so, bo, la, l, A, c⟩, mks, L, dr⟩ : Md) ⟨1, src, t, key, v⟩) := by rw [HMK2.out]; exact HH.out.ok.mks.see src t
      have hmz := HMZ.out
      rw [← HMK2.out] at hmz
      have hdr := HDR2.out
      rw [hdr]
      exact passes_any B _ was wz F okT hmz okm HH.out.ok.late hnd h2 (fun x hx => (hb2 _ (plain_mem hx)).1) (fun x hx => (hb2 _ (plain_mem hx)).2) (HH.out.told.kw HKZ.out) (by rw [← HWAS.out]; exact hk2))
    clear hmk hkz HSEE
    go_wp2_with (fail)
    refine HPAS.out.mono ?_
    rintro r w6 ⟨v6, L6, rfl, ho6, hpl6, hm6, hk6⟩
    have HO6 := Lib.hid ho6
    have HM6 := Lib.hid hm6
    have HK6 := Lib.hid hk6
    have HPL6 := Lib.hid hpl6
    have HOZ6 := Lib.hid (own_kwB HOZ.out hk6 (not_map HMZ.out.mapc))
    obtain ⟨n1, hn1⟩ : ∃ n1, (Md.rec_ (⟨⟨gr, so, bo, la, l, A, c⟩, mks, L, dr⟩ : Md) ⟨1, src, t, key, v⟩).2.length = n1 := ⟨_, rfl⟩
    obtain ⟨n2, hn2⟩ : ∃ n2, (Md.o2 (⟨⟨gr, so, bo, la, l, A, c⟩, mks, L, dr⟩ : Md) ⟨1, src, t, key, v⟩).length = n2 := ⟨_, rfl⟩
    have HO7 : Hid (w6.ownsRow wz.heap.size 56 6 v6 n2 (outcells F (⟨⟨gr, so, bo, la, l, A, c⟩, mks, L, dr⟩ : Md).aggAt false (Md.o2 (⟨⟨gr, so, bo, la, l, A, c⟩, mks, L, dr⟩ : Md) ⟨1, src, t, key, v⟩))) := Lib.hid (by rw [← hn2]; unfold Md.o2; rw [← HPR.out, HWAS.out]; exact HO6.out)
    have HOZ7 : Hid (w6.ownsRow w.heap.size 56 6 v4 n1 (outcells F (⟨⟨gr, so, bo, la, l, A, c⟩, mks, L, dr⟩ : Md).aggAt true (Md.rec_ (⟨⟨gr, so, bo, la, l, A, c⟩, mks, L, dr⟩ : Md) ⟨1, src, t, key, v⟩).2)) := Lib.hid (by rw [← hn1]; exact HOZ6.out)
    have HN1 := Lib.hid hn1
    have HN2 := Lib.hid hn2
    have hsum : n1 + n2 ≤ 4000000 := by
      have h1 := HLEN.out
      rw [hn1, hn2] at h1
      exact h1
    have hbz : w.heap.size ≤ w6.heap.size := Nat.le_trans HKZ.out.size HK6.out.size
    have HON := Lib.hid (outcells_one F (⟨⟨gr, so, bo, la, l, A, c⟩, mks, L, dr⟩ : Md).aggAt false (Md.o2 (⟨⟨gr, so, bo, la, l, A, c⟩, mks, L, dr⟩ : Md) ⟨1, src, t, key, v⟩))
    clear ho6 hm6 hk6 hpl6 hn1 hn2 HOZ6 HO6
    go_wp2_with (at_builtin; refine wpList_append_row _ rfl _ _ 50 56 6 64 (.agg #[.int .i64 0, .string ⟨#[]⟩, .int .i64 0, .int .i64 0, .string ⟨#[]⟩, .bool false]) und50 i56 rfl (by decide) (by decide) rfl w.heap.size wz.heap.size n1 v4 _ rfl HOZ7.out v6 n2 _ rfl HO7.out HON.out hsum hbz ?_)
    intro v7 w7 ho7 hg7 hl7
    have HM7 := Lib.hid (HM6.out.own HOZ7.out hg7 (by decide) (by decide) (fun a ha => HOPA.out a ha) (.inl (by decide)))
    have HK7 := Lib.hid ((HKZ.out.trans (HK6.out.mono (fun b _ hb => .inr (.inr hb)))).grownNew hg7 (fun b hb => (HOZ7.out.lt b hb).1))
    have HO8 := Lib.hid ho7
    clear ho7 hg7 hl7
    go_wp2_with (fail)
    go_ret2
    unfold DoR
    rw [if_neg (fun h => h HC.out), if_neg HLONG.out]
    exact ⟨v7, L6, rfl, by rw [HN1.out, HN2.out]; exact HO8.out, by rw [HPL6.out]; unfold Md.l2; rw [← HPR.out], HM7.out, HK7.out⟩
end Go.Proofs.YtfojblbnhapedaaGreatDoor
