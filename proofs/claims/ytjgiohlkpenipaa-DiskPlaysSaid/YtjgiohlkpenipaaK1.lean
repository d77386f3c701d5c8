/- Contracts of the reference's Create, Rename, Remove, SyncDir. Conditions: as each theorem states them. -/
import Derived.Test.YtjgiohlkpenipaaJ7
import Derived.Test.YtjgiohlkpenipaaJ9
namespace Go.Proofs.Ytjgiohlkpenipaa
open Go.RowKit Go.Maps
set_option linter.unusedVariables false
set_option linter.unusedSimpArgs false

/-- The reference's call has answered, and left its disk so. -/
def RefR (w : World) (b : Nat) (res : Int × DS) (r : Ending) (w' : World) : Prop := r = .returned (.int .i64 res.1) ∧ (∃ v', RefAt w' b v' res.2) ∧ Kw (fun x => x = b) w w'
theorem RefR.mk {w w' : World} {b : Nat} {res : Int × DS} {r : Ending} (h1 : r = .returned (.int .i64 res.1)) (h2 : ∃ v', RefAt w' b v' res.2) (h3 : Kw (fun x => x = b) w w') : RefR w b res r w' := ⟨h1, h2, h3⟩
theorem find_none {l : Dir} {n : ByteArray} (h : look l n = none) : findI l n = -1 := by unfold findI; rw [h]
theorem find_some {l : Dir} {n : ByteArray} {k : Nat} (h : look l n = some k) : findI l n = k := by unfold findI; rw [h]
theorem step_down {s : DS} {e : Int} {f : DS → DS} (h : s.down = true) : s.step e f = (9, s) := by unfold DS.step; rw [if_pos h]
theorem step_no {s : DS} {e : Int} {f : DS → DS} (h : s.down = false) (he : e ≠ 0) : s.step e f = (e, s) := by unfold DS.step; rw [if_neg (by simp [h]), if_pos he]
theorem step_gone {s : DS} {f : DS → DS} (h : s.down = false) (hf : s.fuse = 1) : s.step 0 f = (9, s.gone) := by unfold DS.step; rw [if_neg (by simp [h]), if_neg (by simp), if_pos hf]
theorem step_do {s : DS} {f : DS → DS} (h : s.down = false) (hf : s.fuse ≠ 1) : s.step 0 f = (0, f s.tick) := by unfold DS.step; rw [if_neg (by simp [h]), if_neg (by simp), if_neg hf]
theorem kind1 {to : ByteArray} {k : Nat} : rchV ⟨ByteArray.empty, to, k⟩ = .agg #[.int .i64 1, .string ByteArray.empty, .string to, .int .i64 k] := by unfold rchV kindC; rw [if_pos rfl]
theorem kind2 {frm to : ByteArray} {k : Nat} (hf : frm ≠ ByteArray.empty) (ht : to ≠ ByteArray.empty) : rchV ⟨frm, to, k⟩ = .agg #[.int .i64 2, .string frm, .string to, .int .i64 k] := by unfold rchV kindC; rw [if_neg hf, if_neg ht]
theorem kind3 {frm : ByteArray} {k : Nat} (hf : frm ≠ ByteArray.empty) : rchV ⟨frm, ByteArray.empty, k⟩ = .agg #[.int .i64 3, .string frm, .string ByteArray.empty, .int .i64 k] := by unfold rchV kindC; rw [if_neg hf, if_pos rfl]
set_option maxRecDepth 100000 in
set_option maxHeartbeats 4000000 in
theorem rcreate_down (b : Nat) (v : Rv) (s : DS) (n : ByteArray) (w : World) (h : RefAt w b v s) (iv : Inv s) (hs : s.steps < 1000000) (hf : s.files.length ≤ s.steps) (hn : okN n) (hd : s.down = true) :
    Calls Try.prog 53 #[ptrV b, .string n] w (RefR w b (s.create n)) := by
  have hres : s.create n = (9, s) := by unfold DS.create; exact step_down hd
  rw [hres]
  have HS := Lib.hid (rstep_any b v s w h iv.ok.st iv.ok.fu)
  have HFD := Lib.hid (find_any v.d s.dir n w h.2.d (by have := iv.ok.dl; have := iv.ok.st; omega))
  have HNM := Lib.hid (rnamed_any n w hn)
  have HR := Lib.hid h
  obtain ⟨_, _, _, a3, a4, a5, a6, a7⟩ := h.c
  have hl := h.lt
  have IV := Lib.hid iv
  rw [hd] at a3
  clear h iv hs hf hd hres HS HFD HNM a4 a5 a6 a7
  unfold ptrV at *
  go_enter Try.func53, Try.ntmps53
  go_wp2_with (fail)
  go_ret
  exact RefR.mk rfl ⟨v, HR.out⟩ (Kw.refl _ _)
set_option maxRecDepth 100000 in
set_option maxHeartbeats 4000000 in
theorem rcreate_name (b : Nat) (v : Rv) (s : DS) (n : ByteArray) (w : World) (h : RefAt w b v s) (iv : Inv s) (hs : s.steps < 1000000) (hf : s.files.length ≤ s.steps) (hn : okN n) (hd : s.down = false) (h1 : ¬ named n) :
    Calls Try.prog 53 #[ptrV b, .string n] w (RefR w b (s.create n)) := by
  have hres : s.create n = (2, s) := by unfold DS.create; rw [show agCreate s n = 2 from by unfold agCreate; rw [if_pos h1]]; exact step_no hd (by decide)
  rw [hres]
  have HS := Lib.hid (rstep_any b v s w h iv.ok.st iv.ok.fu)
  have HFD := Lib.hid (find_any v.d s.dir n w h.2.d (by have := iv.ok.dl; have := iv.ok.st; omega))
  have HNM := Lib.hid (rnamed_any n w hn)
  have HR := Lib.hid h
  obtain ⟨_, _, _, a3, a4, a5, a6, a7⟩ := h.c
  have hl := h.lt
  have IV := Lib.hid iv
  rw [hd] at a3
  rw [decide_eq_false h1] at HNM
  clear h iv hs hf hd hres HS HFD a4 a5 a6 a7 h1
  unfold ptrV at *
  go_enter Try.func53, Try.ntmps53
  go_wp2_with (fail)
  refine HNM.out.mono ?_
  rintro r w' ⟨rfl, rfl⟩
  go_wp2_with (fail)
  go_ret
  exact RefR.mk rfl ⟨v, HR.out⟩ (Kw.refl _ _)
set_option maxRecDepth 100000 in
set_option maxHeartbeats 4000000 in
theorem rcreate_there (b : Nat) (v : Rv) (s : DS) (n : ByteArray) (w : World) (h : RefAt w b v s) (iv : Inv s) (hs : s.steps < 1000000) (hf : s.files.length ≤ s.steps) (hn : okN n) (hd : s.down = false) (h1 : named n) {k : Nat} (h2 : look s.dir n = some k) :
    Calls Try.prog 53 #[ptrV b, .string n] w (RefR w b (s.create n)) := by
  have hres : s.create n = (5, s) := by unfold DS.create; rw [show agCreate s n = 5 from by unfold agCreate; rw [if_neg (by simpa using h1), if_pos (by simp [h2])]]; exact step_no hd (by decide)
  rw [hres]
  have HS := Lib.hid (rstep_any b v s w h iv.ok.st iv.ok.fu)
  have HFD := Lib.hid (find_any v.d s.dir n w h.2.d (by have := iv.ok.dl; have := iv.ok.st; omega))
  have HNM := Lib.hid (rnamed_any n w hn)
  have HR := Lib.hid h
  obtain ⟨_, _, _, a3, a4, a5, a6, a7⟩ := h.c
  have hl := h.lt
  have IV := Lib.hid iv
  rw [hd] at a3
  rw [decide_eq_true h1] at HNM
  rw [find_some h2] at HFD
  obtain ⟨Ad, cd, hvd, _, _⟩ := own_slice h.2.d
  rw [hvd] at a5 HFD
  have hk0 : (0 : Int) ≤ (k : Int) := by omega
  clear h iv hs hf hd hres HS a4 a6 a7 h1 h2 hvd
  unfold ptrV at *
  go_enter Try.func53, Try.ntmps53
  go_wp2_with (fail)
  refine HNM.out.mono ?_
  rintro r w' ⟨rfl, rfl⟩
  go_wp2_with (fail)
  refine HFD.out.mono ?_
  rintro r w' ⟨rfl, rfl⟩
  go_wp2_with (fail)
  go_ret
  exact RefR.mk rfl ⟨v, HR.out⟩ (Kw.refl _ _)
set_option maxRecDepth 100000 in
set_option maxHeartbeats 4000000 in
theorem rcreate_room (b : Nat) (v : Rv) (s : DS) (n : ByteArray) (w : World) (h : RefAt w b v s) (iv : Inv s) (hs : s.steps < 1000000) (hf : s.files.length ≤ s.steps) (hn : okN n) (hd : s.down = false) (h1 : named n) (h2 : look s.dir n = none) (h3 : 4096 ≤ s.dir.length) :
    Calls Try.prog 53 #[ptrV b, .string n] w (RefR w b (s.create n)) := by
  have hres : s.create n = (8, s) := by unfold DS.create; rw [show agCreate s n = 8 from by unfold agCreate; rw [if_neg (by simpa using h1), if_neg (by simp [h2]), if_pos (by omega)]]; exact step_no hd (by decide)
  rw [hres]
  have HS := Lib.hid (rstep_any b v s w h iv.ok.st iv.ok.fu)
  have HFD := Lib.hid (find_any v.d s.dir n w h.2.d (by have := iv.ok.dl; have := iv.ok.st; omega))
  have HNM := Lib.hid (rnamed_any n w hn)
  have HR := Lib.hid h
  obtain ⟨_, _, _, a3, a4, a5, a6, a7⟩ := h.c
  have hl := h.lt
  have IV := Lib.hid iv
  rw [hd] at a3
  rw [decide_eq_true h1] at HNM
  rw [find_none h2] at HFD
  obtain ⟨Ad, cd, hvd, _, _⟩ := own_slice h.2.d
  rw [hvd] at a5 HFD
  obtain ⟨N, hN⟩ : ∃ N, s.dir.length = N := ⟨_, rfl⟩
  rw [hN] at a5 h3 HFD
  have h3i : (4096 : Int) ≤ (N : Int) := by omega
  clear h iv hs hf hd hres HS a4 a6 a7 h1 h2 hvd hN
  unfold ptrV at *
  go_enter Try.func53, Try.ntmps53
  go_wp2_with (fail)
  refine HNM.out.mono ?_
  rintro r w' ⟨rfl, rfl⟩
  go_wp2_with (fail)
  refine HFD.out.mono ?_
  rintro r w' ⟨rfl, rfl⟩
  go_wp2_with (fail)
  go_ret
  exact RefR.mk rfl ⟨v, HR.out⟩ (Kw.refl _ _)
set_option maxRecDepth 100000 in
set_option maxHeartbeats 4000000 in
theorem rcreate_gone (b : Nat) (v : Rv) (s : DS) (n : ByteArray) (w : World) (h : RefAt w b v s) (iv : Inv s) (hs : s.steps < 1000000) (hf : s.files.length ≤ s.steps) (hn : okN n) (hd : s.down = false) (h1 : named n) (h2 : look s.dir n = none) (h3 : s.dir.length < 4096) (h4 : s.fuse = 1) :
    Calls Try.prog 53 #[ptrV b, .string n] w (RefR w b (s.create n)) := by
  have hres : s.create n = (9, s.gone) := by unfold DS.create; rw [show agCreate s n = 0 from by unfold agCreate; rw [if_neg (by simpa using h1), if_neg (by simp [h2]), if_neg (by omega)]]; exact step_gone hd h4
  rw [hres]
  have HS := Lib.hid (rstep_any b v s w h iv.ok.st iv.ok.fu)
  have HFD := Lib.hid (find_any v.d s.dir n w h.2.d (by have := iv.ok.dl; have := iv.ok.st; omega))
  have HNM := Lib.hid (rnamed_any n w hn)
  have HR := Lib.hid h
  obtain ⟨_, _, _, a3, a4, a5, a6, a7⟩ := h.c
  have hl := h.lt
  have IV := Lib.hid iv
  rw [hd] at a3
  rw [decide_eq_true h1] at HNM
  rw [find_none h2] at HFD
  rw [if_pos h4, if_pos h4] at HS
  obtain ⟨Ad, cd, hvd, _, _⟩ := own_slice h.2.d
  rw [hvd] at a5 HFD
  obtain ⟨N, hN⟩ : ∃ N, s.dir.length = N := ⟨_, rfl⟩
  rw [hN] at a5 h3 HFD
  have h3i : (N : Int) < 4096 := by omega
  clear h iv hs hf hd hres a4 a6 a7 h1 h2 hvd hN h4
  unfold ptrV at *
  go_enter Try.func53, Try.ntmps53
  go_wp2_with (fail)
  refine HNM.out.mono ?_
  rintro r w' ⟨rfl, rfl⟩
  go_wp2_with (fail)
  refine HFD.out.mono ?_
  rintro r w' ⟨rfl, rfl⟩
  go_wp2_with (fail)
  refine HS.out.mono ?_
  rintro r w1 ⟨rfl, hr1, hk1⟩
  go_wp2_with (fail)
  go_ret
  exact RefR.mk rfl ⟨v, hr1⟩ hk1
set_option maxRecDepth 100000 in
set_option maxHeartbeats 4000000 in
theorem rcreate_do (b : Nat) (v : Rv) (s : DS) (n : ByteArray) (w : World) (h : RefAt w b v s) (iv : Inv s) (hs : s.steps < 1000000) (hf : s.files.length ≤ s.steps) (hn : okN n) (hd : s.down = false) (h1 : named n) (h2 : look s.dir n = none) (h3 : s.dir.length < 4096) (h4 : s.fuse ≠ 1) :
    Calls Try.prog 53 #[ptrV b, .string n] w (RefR w b (s.create n)) := by
  have hres : s.create n = (0, s.tick.grow.chg ⟨ByteArray.empty, n, s.tick.files.length⟩) := by unfold DS.create; rw [show agCreate s n = 0 from by unfold agCreate; rw [if_neg (by simpa using h1), if_neg (by simp [h2]), if_neg (by omega)]]; exact step_do hd h4
  rw [hres]
  have HS := Lib.hid (rstep_any b v s w h iv.ok.st iv.ok.fu)
  have HFD := Lib.hid (find_any v.d s.dir n w h.2.d (by have := iv.ok.dl; have := iv.ok.st; omega))
  have HNM := Lib.hid (rnamed_any n w hn)
  have HR := Lib.hid h
  obtain ⟨_, _, _, a3, a4, a5, a6, a7⟩ := h.c
  have hl := h.lt
  have IV := Lib.hid iv
  rw [hd] at a3
  rw [decide_eq_true h1] at HNM
  rw [find_none h2] at HFD
  rw [if_neg h4, if_neg h4] at HS
  obtain ⟨Ad, cd, hvd, _, _⟩ := own_slice h.2.d
  rw [hvd] at a5 HFD
  obtain ⟨N, hN⟩ : ∃ N, s.dir.length = N := ⟨_, rfl⟩
  rw [hN] at a5 h3 HFD
  have h3i : (N : Int) < 4096 := by omega
  have HNE := Lib.hid (named_ne h1)
  have hsl : s.files.length ≤ 1000000 := by omega
  clear h iv hf hd hres a4 a6 a7 h1 h2 hvd hN h4 hs
  unfold ptrV at *
  go_enter Try.func53, Try.ntmps53
  go_wp2_with (fail)
  refine HNM.out.mono ?_
  rintro r w' ⟨rfl, rfl⟩
  go_wp2_with (fail)
  refine HFD.out.mono ?_
  rintro r w' ⟨rfl, rfl⟩
  go_wp2_with (fail)
  refine HS.out.mono ?_
  rintro r w1 ⟨rfl, hr1, hk1⟩
  have R1 := Lib.hid hr1
  have K1 := Lib.hid hk1
  obtain ⟨Af, cf, hvf, _, _⟩ := own_slice hr1.2.f
  obtain ⟨M, hM⟩ : ∃ M, s.files.length = M := ⟨_, rfl⟩
  have hM2 : s.tick.files.length = M := hM
  have HM := Lib.hid hM
  rw [hM2] at hvf
  have HF : Hid (∀ z, Below w1.heap.size w1 z → z.ownsRow 0 97 2 (.slice Af M cf) M (fcells s.files) ∧ z.cell? ⟨b, 4, none⟩ = some (.slice Af M cf) ∧ z.frozen? ⟨b, 4, none⟩ = false ∧ b < z.heap.size) := Lib.hid (fun z k => by
    have hz := hr1.below k
    have h1 := hz.2.f
    have h2 := hz.c.2.2.2.2.1
    rw [hvf, hM2] at h1
    rw [hvf] at h2
    exact ⟨h1, h2, hz.fz 4, hz.lt⟩)
  have hmi : (M : Int) ≤ 1000000 := by omega
  have HMB : Hid (M ≤ 1000000) := Lib.hid (by omega)
  obtain ⟨c0, cz⟩ := (HF.out w1 (Below.refl _ _)).2
  obtain ⟨cz, cl⟩ := cz
  clear hr1 hk1 hvf hM hM2 cz
  have k0 := bl_alloc (Below.refl w1.heap.size w1) (Obj.cells #[] 97)
  have HE0 : Hid ((w1.alloc (Obj.cells #[] 97)).ownsRow w1.heap.size 97 2 (.slice (some ⟨w1.heap.size, 0, none⟩) 0 0) 0 []) := Lib.hid (em_own (new_heap _ _) (Nat.le_refl _))
  have HF0 := Lib.hid (HF.out _ k0).1
  have HK0 := Lib.hid k0
  have HN0 : Hid (0 + M ≤ 4000000) := Lib.hid (by have := HMB.out; omega)
  have HN1 : Hid (0 + M + 1 ≤ 4000000) := Lib.hid (by have := HMB.out; omega)
  have HXO : Hid (∀ u ∈ ([.string ⟨#[]⟩, .int .i64 0] : List Value), u.oneCell' = true) := Lib.hid (by simp [Value.oneCell'])
  have HA : Hid (∀ (z : World), Below w1.heap.size w1 z → ∀ {u n xs}, z.ownsRow w1.heap.size 97 2 u n xs → (z.alloc (Obj.cells #[.string ⟨#[]⟩, .int .i64 0] 97)).ownsRow w1.heap.size 97 2 u n xs ∧ Below w1.heap.size w1 (z.alloc (Obj.cells #[.string ⟨#[]⟩, .int .i64 0] 97)) ∧ w1.heap.size ≤ (z.alloc (Obj.cells #[.string ⟨#[]⟩, .int .i64 0] 97)).heap.size ∧ (z.alloc (Obj.cells #[.string ⟨#[]⟩, .int .i64 0] 97)).ownsRow 0 97 2 (.slice (some ⟨z.heap.size, 0, none⟩) 1 1) 1 [.string ⟨#[]⟩, .int .i64 0]) := Lib.hid (fun z k u n xs h => by
    have k2 := bl_alloc k (Obj.cells #[.string ⟨#[]⟩, .int .i64 0] 97)
    exact ⟨own_kw h (Kw.ofBelow (S := fun _ => False) (bl_alloc (Below.refl _ _) _)) (fun _ _ e => e), k2, k2.size, own_one (new_heap _ _) rfl (Nat.zero_le _)⟩)
  clear k0
  go_wp2_with (first
    | (at_builtin; refine wpList_append_row _ rfl (.tmp 36) (.tmp 38) 48 97 2 24 _ und48 i97 rfl (by decide) (by decide) rfl w1.heap.size 0 (0 + M) v1 _ rfl hx1.1 (.slice (some ⟨w2.heap.size, 0, none⟩) 1 1) 1 [.string ⟨#[]⟩, .int .i64 0] rfl hx1.2.2.2 HXO.out HN1.out hx1.2.2.1 ?_; intro v2 w4 hown2 hgr2; have hbB := bl_grow hx1.2.1 hx1.2.2.1 hx1.1 hgr2; obtain ⟨A4, c4, rfl, _, _⟩ := own_slice hown2; obtain ⟨_, sc, sf, sl⟩ := HF.out w4 hbB)
    | (at_builtin; refine wpList_append_row _ rfl (.tmp 31) (.tmp 35) 48 97 2 24 _ und48 i97 rfl (by decide) (by decide) rfl w1.heap.size 0 0 (.slice (some ⟨w1.heap.size, 0, none⟩) 0 0) [] rfl HE0.out (.slice Af M cf) M (fcells s.files) rfl HF0.out (fcells_one _) HN0.out HK0.out.size ?_; intro v1 w2 hown1 hgr1; have hbA := bl_grow HK0.out HK0.out.size HE0.out hgr1; have hx1 := HA.out w2 hbA hown1; obtain ⟨_, sc1, sf1, sl1⟩ := HF.out w2 hbA))
  have hRF : RefAt (w4.setCell ⟨b, 4, none⟩ (.slice A4 (M + 1) c4)) b { v with f := .slice A4 (M + 1) c4 } s.tick.grow := by
    have hll : 0 + M + 1 = (s.tick.files ++ [zeroF]).length := by rw [List.length_append]; show 0 + M + 1 = s.files.length + 1; rw [HM.out]; omega
    have hcc : [] ++ fcells s.files ++ [.string ⟨#[]⟩, .int .i64 0] = fcells (s.tick.files ++ [zeroF]) := by rw [fcells_app]; rfl
    rw [hcc, hll] at hown2
    have hz := (R1.out.below hbB).setF hown2
    rw [← hll, Nat.zero_add] at hz
    exact hz
  have HKK := Lib.hid (K1.out.trans ((Kw.ofBelow (S := fun x => x = b) hbB).setCell (p := ⟨b, 4, none⟩) rfl (.slice A4 (M + 1) c4)))
  have HC := Lib.hid (rchange_any b _ s.tick.grow ⟨ByteArray.empty, n, M⟩ _ hRF (by have := IV.out.ok.dl; have := IV.out.ok.st; show s.dir.length ≤ 1000000; omega) (by have := IV.out.ok.kl; have := IV.out.ok.st; show s.waits.length ≤ 1000000; omega) (fun _ => HNE.out))
  have HTM : Hid (s.tick.files.length = M) := Lib.hid HM.out
  rw [kind1] at HC
  unfold ptrV at HC
  clear hown2 hgr1 hgr2 hbA hbB hown1 hx1 sc sf hRF sc1 sf1
  refine HC.out.mono ?_
  rintro r w5 ⟨rfl, hr5, hk5⟩
  have HR5 := Lib.hid hr5
  clear hr5
  go_wp2_with (fail)
  go_ret
  exact RefR.mk rfl (by have h5 := HR5.out; rw [← HTM.out] at h5; exact h5) (HKK.out.trans hk5)
theorem rcreate_any (b : Nat) (v : Rv) (s : DS) (n : ByteArray) (hn : okN n) (w : World) (h : RefAt w b v s) (iv : Inv s) (hs : s.steps < 1000000) (hf : s.files.length ≤ s.steps) :
    Calls Try.prog 53 #[ptrV b, .string n] w (RefR w b (s.create n)) := by
  cases hd : s.down with
  | true => exact rcreate_down b v s n w h iv hs hf hn hd
  | false =>
    by_cases h1 : named n
    · cases h2 : look s.dir n with
      | some k => exact rcreate_there b v s n w h iv hs hf hn hd h1 h2
      | none =>
        by_cases h3 : 4096 ≤ s.dir.length
        · exact rcreate_room b v s n w h iv hs hf hn hd h1 h2 h3
        · by_cases h4 : s.fuse = 1
          · exact rcreate_gone b v s n w h iv hs hf hn hd h1 h2 (by omega) h4
          · exact rcreate_do b v s n w h iv hs hf hn hd h1 h2 (by omega) h4
    · exact rcreate_name b v s n w h iv hs hf hn hd h1
set_option maxRecDepth 100000 in
set_option maxHeartbeats 4000000 in
theorem rrename_down (b : Nat) (v : Rv) (s : DS) (n to : ByteArray) (hto : okN to) (w : World) (h : RefAt w b v s) (iv : Inv s) (hs : s.steps < 1000000) (hf : s.files.length ≤ s.steps) (hd : s.down = true) :
    Calls Try.prog 57 #[ptrV b, .string n, .string to] w (RefR w b (s.rename n to)) := by
  have hres : s.rename n to = (9, s) := by unfold DS.rename; exact step_down hd
  rw [hres]
  have HS := Lib.hid (rstep_any b v s w h iv.ok.st iv.ok.fu)
  have HFD := Lib.hid (find_any v.d s.dir n w h.2.d (by have := iv.ok.dl; have := iv.ok.st; omega))
  have HNM := Lib.hid (rnamed_any to w hto)
  have HR := Lib.hid h
  obtain ⟨_, _, _, a3, a4, a5, a6, a7⟩ := h.c
  have hl := h.lt
  have IV := Lib.hid iv
  rw [hd] at a3
  clear h iv hs hf hd hres HS HFD HNM a4 a5 a6 a7
  unfold ptrV at *
  go_enter Try.func57, Try.ntmps57
  go_wp2_with (fail)
  go_ret
  exact RefR.mk rfl ⟨v, HR.out⟩ (Kw.refl _ _)
set_option maxRecDepth 100000 in
set_option maxHeartbeats 4000000 in
theorem rrename_none (b : Nat) (v : Rv) (s : DS) (n to : ByteArray) (hto : okN to) (w : World) (h : RefAt w b v s) (iv : Inv s) (hs : s.steps < 1000000) (hf : s.files.length ≤ s.steps) (hd : s.down = false) (h1 : look s.dir n = none) :
    Calls Try.prog 57 #[ptrV b, .string n, .string to] w (RefR w b (s.rename n to)) := by
  have hres : s.rename n to = (4, s) := by unfold DS.rename; rw [show agRename s n to = 4 from by unfold agRename; rw [if_pos h1]]; exact step_no hd (by decide)
  rw [hres]
  have HS := Lib.hid (rstep_any b v s w h iv.ok.st iv.ok.fu)
  have HFD := Lib.hid (find_any v.d s.dir n w h.2.d (by have := iv.ok.dl; have := iv.ok.st; omega))
  have HNM := Lib.hid (rnamed_any to w hto)
  have HR := Lib.hid h
  obtain ⟨_, _, _, a3, a4, a5, a6, a7⟩ := h.c
  have hl := h.lt
  have IV := Lib.hid iv
  rw [hd] at a3
  rw [find_none h1] at HFD
  obtain ⟨Ad, cd, hvd, _, _⟩ := own_slice h.2.d
  rw [hvd] at a5 HFD
  clear h iv hs hf hd hres HS HNM a4 a6 a7 h1 hvd
  unfold ptrV at *
  go_enter Try.func57, Try.ntmps57
  go_wp2_with (fail)
  refine HFD.out.mono ?_
  rintro r w' ⟨rfl, rfl⟩
  go_wp2_with (fail)
  go_ret
  exact RefR.mk rfl ⟨v, HR.out⟩ (Kw.refl _ _)
set_option maxRecDepth 100000 in
set_option maxHeartbeats 4000000 in
theorem rrename_name (b : Nat) (v : Rv) (s : DS) (n to : ByteArray) (hto : okN to) (w : World) (h : RefAt w b v s) (iv : Inv s) (hs : s.steps < 1000000) (hf : s.files.length ≤ s.steps) (hd : s.down = false) {k : Nat} (h1 : look s.dir n = some k) (h2 : ¬ named to) :
    Calls Try.prog 57 #[ptrV b, .string n, .string to] w (RefR w b (s.rename n to)) := by
  have hres : s.rename n to = (2, s) := by unfold DS.rename; rw [show agRename s n to = 2 from by unfold agRename; rw [if_neg (by simp [h1]), if_pos h2]]; exact step_no hd (by decide)
  rw [hres]
  have HS := Lib.hid (rstep_any b v s w h iv.ok.st iv.ok.fu)
  have HFD := Lib.hid (find_any v.d s.dir n w h.2.d (by have := iv.ok.dl; have := iv.ok.st; omega))
  have HNM := Lib.hid (rnamed_any to w hto)
  have HR := Lib.hid h
  obtain ⟨_, _, _, a3, a4, a5, a6, a7⟩ := h.c
  have hl := h.lt
  have IV := Lib.hid iv
  rw [hd] at a3
  rw [find_some h1] at HFD
  rw [decide_eq_false h2] at HNM
  obtain ⟨Ad, cd, hvd, _, _⟩ := own_slice h.2.d
  rw [hvd] at a5 HFD
  have hk0 : (0 : Int) ≤ (k : Int) := by omega
  clear h iv hs hf hd hres HS a4 a6 a7 h1 h2 hvd
  unfold ptrV at *
  go_enter Try.func57, Try.ntmps57
  go_wp2_with (fail)
  refine HFD.out.mono ?_
  rintro r w' ⟨rfl, rfl⟩
  go_wp2_with (fail)
  refine HNM.out.mono ?_
  rintro r w' ⟨rfl, rfl⟩
  go_wp2_with (fail)
  go_ret
  exact RefR.mk rfl ⟨v, HR.out⟩ (Kw.refl _ _)
set_option maxRecDepth 100000 in
set_option maxHeartbeats 4000000 in
theorem rrename_gone (b : Nat) (v : Rv) (s : DS) (n to : ByteArray) (hto : okN to) (w : World) (h : RefAt w b v s) (iv : Inv s) (hs : s.steps < 1000000) (hf : s.files.length ≤ s.steps) (hd : s.down = false) {k : Nat} (h1 : look s.dir n = some k) (h2 : named to) (h4 : s.fuse = 1) :
    Calls Try.prog 57 #[ptrV b, .string n, .string to] w (RefR w b (s.rename n to)) := by
  have hres : s.rename n to = (9, s.gone) := by unfold DS.rename; rw [show agRename s n to = 0 from by unfold agRename; rw [if_neg (by simp [h1]), if_neg (by simpa using h2)]]; exact step_gone hd h4
  rw [hres]
  have HS := Lib.hid (rstep_any b v s w h iv.ok.st iv.ok.fu)
  have HFD := Lib.hid (find_any v.d s.dir n w h.2.d (by have := iv.ok.dl; have := iv.ok.st; omega))
  have HNM := Lib.hid (rnamed_any to w hto)
  have HR := Lib.hid h
  obtain ⟨_, _, _, a3, a4, a5, a6, a7⟩ := h.c
  have hl := h.lt
  have IV := Lib.hid iv
  rw [hd] at a3
  rw [find_some h1] at HFD
  rw [decide_eq_true h2] at HNM
  rw [if_pos h4, if_pos h4] at HS
  obtain ⟨Ad, cd, hvd, _, _⟩ := own_slice h.2.d
  rw [hvd] at a5 HFD
  have hk0 : (0 : Int) ≤ (k : Int) := by omega
  clear h iv hs hf hd hres a4 a6 a7 h1 h2 h4 hvd
  unfold ptrV at *
  go_enter Try.func57, Try.ntmps57
  go_wp2_with (fail)
  refine HFD.out.mono ?_
  rintro r w' ⟨rfl, rfl⟩
  go_wp2_with (fail)
  refine HNM.out.mono ?_
  rintro r w' ⟨rfl, rfl⟩
  go_wp2_with (fail)
  refine HS.out.mono ?_
  rintro r w1 ⟨rfl, hr1, hk1⟩
  go_wp2_with (fail)
  go_ret
  exact RefR.mk rfl ⟨v, hr1⟩ hk1
set_option maxRecDepth 100000 in
set_option maxHeartbeats 4000000 in
theorem rrename_do (b : Nat) (v : Rv) (s : DS) (n to : ByteArray) (hto : okN to) (w : World) (h : RefAt w b v s) (iv : Inv s) (hs : s.steps < 1000000) (hf : s.files.length ≤ s.steps) (hd : s.down = false) {k : Nat} (h1 : look s.dir n = some k) (h2 : named to) (h4 : s.fuse ≠ 1) :
    Calls Try.prog 57 #[ptrV b, .string n, .string to] w (RefR w b (s.rename n to)) := by
  have hres : s.rename n to = (0, s.tick.chg ⟨n, to, k⟩) := by unfold DS.rename; rw [show agRename s n to = 0 from by unfold agRename; rw [if_neg (by simp [h1]), if_neg (by simpa using h2)]]; rw [show s.at_ n = k from by unfold DS.at_; rw [h1]; rfl]; exact step_do hd h4
  rw [hres]
  have HS := Lib.hid (rstep_any b v s w h iv.ok.st iv.ok.fu)
  have HFD := Lib.hid (find_any v.d s.dir n w h.2.d (by have := iv.ok.dl; have := iv.ok.st; omega))
  have HNM := Lib.hid (rnamed_any to w hto)
  have HR := Lib.hid h
  obtain ⟨_, _, _, a3, a4, a5, a6, a7⟩ := h.c
  have hl := h.lt
  have IV := Lib.hid iv
  rw [hd] at a3
  rw [find_some h1] at HFD
  rw [decide_eq_true h2] at HNM
  rw [if_neg h4, if_neg h4] at HS
  obtain ⟨Ad, cd, hvd, _, _⟩ := own_slice h.2.d
  rw [hvd] at a5 HFD
  have hk0 : (0 : Int) ≤ (k : Int) := by omega
  have HNE := Lib.hid (named_ne (named_dir iv h1))
  have HTE := Lib.hid (named_ne h2)
  clear h iv hs hf hd hres a4 a6 a7 h1 h2 h4 hvd
  unfold ptrV at *
  go_enter Try.func57, Try.ntmps57
  go_wp2_with (fail)
  refine HFD.out.mono ?_
  rintro r w' ⟨rfl, rfl⟩
  go_wp2_with (fail)
  refine HNM.out.mono ?_
  rintro r w' ⟨rfl, rfl⟩
  go_wp2_with (fail)
  refine HS.out.mono ?_
  rintro r w1 ⟨rfl, hr1, hk1⟩
  have K1 := Lib.hid hk1
  have HC := Lib.hid (rchange_any b _ s.tick ⟨n, to, k⟩ _ hr1 (by have := IV.out.ok.dl; have := IV.out.ok.st; show s.dir.length ≤ 1000000; omega) (by have := IV.out.ok.kl; have := IV.out.ok.st; show s.waits.length ≤ 1000000; omega) (fun e => absurd e HNE.out))
  rw [kind2 HNE.out HTE.out] at HC
  unfold ptrV at HC
  clear hr1 hk1
  go_wp2_with (fail)
  refine HC.out.mono ?_
  rintro r w5 ⟨rfl, hr5, hk5⟩
  have HR5 := Lib.hid hr5
  clear hr5
  go_wp2_with (fail)
  go_ret
  exact RefR.mk rfl HR5.out (K1.out.trans hk5)
theorem rrename_any (b : Nat) (v : Rv) (s : DS) (n to : ByteArray) (hto : okN to) (w : World) (h : RefAt w b v s) (iv : Inv s) (hs : s.steps < 1000000) (hf : s.files.length ≤ s.steps) :
    Calls Try.prog 57 #[ptrV b, .string n, .string to] w (RefR w b (s.rename n to)) := by
  cases hd : s.down with
  | true => exact rrename_down b v s n to hto w h iv hs hf hd
  | false =>
    cases h1 : look s.dir n with
    | none => exact rrename_none b v s n to hto w h iv hs hf hd h1
    | some k =>
      by_cases h2 : named to
      · by_cases h4 : s.fuse = 1
        · exact rrename_gone b v s n to hto w h iv hs hf hd h1 h2 h4
        · exact rrename_do b v s n to hto w h iv hs hf hd h1 h2 h4
      · exact rrename_name b v s n to hto w h iv hs hf hd h1 h2
set_option maxRecDepth 100000 in
set_option maxHeartbeats 4000000 in
theorem rremove_down (b : Nat) (v : Rv) (s : DS) (n : ByteArray) (w : World) (h : RefAt w b v s) (iv : Inv s) (hs : s.steps < 1000000) (hf : s.files.length ≤ s.steps) (hd : s.down = true) :
    Calls Try.prog 58 #[ptrV b, .string n] w (RefR w b (s.remove n)) := by
  have hres : s.remove n = (9, s) := by unfold DS.remove; exact step_down hd
  rw [hres]
  have HS := Lib.hid (rstep_any b v s w h iv.ok.st iv.ok.fu)
  have HFD := Lib.hid (find_any v.d s.dir n w h.2.d (by have := iv.ok.dl; have := iv.ok.st; omega))
  have HR := Lib.hid h
  obtain ⟨_, _, _, a3, a4, a5, a6, a7⟩ := h.c
  have hl := h.lt
  have IV := Lib.hid iv
  rw [hd] at a3
  clear h iv hs hf hd hres HS HFD a4 a5 a6 a7
  unfold ptrV at *
  go_enter Try.func58, Try.ntmps58
  go_wp2_with (fail)
  go_ret
  exact RefR.mk rfl ⟨v, HR.out⟩ (Kw.refl _ _)
set_option maxRecDepth 100000 in
set_option maxHeartbeats 4000000 in
theorem rremove_none (b : Nat) (v : Rv) (s : DS) (n : ByteArray) (w : World) (h : RefAt w b v s) (iv : Inv s) (hs : s.steps < 1000000) (hf : s.files.length ≤ s.steps) (hd : s.down = false) (h1 : look s.dir n = none) :
    Calls Try.prog 58 #[ptrV b, .string n] w (RefR w b (s.remove n)) := by
  have hres : s.remove n = (4, s) := by unfold DS.remove; rw [show agThere s n = 4 from by unfold agThere; rw [if_pos h1]]; exact step_no hd (by decide)
  rw [hres]
  have HS := Lib.hid (rstep_any b v s w h iv.ok.st iv.ok.fu)
  have HFD := Lib.hid (find_any v.d s.dir n w h.2.d (by have := iv.ok.dl; have := iv.ok.st; omega))
  have HR := Lib.hid h
  obtain ⟨_, _, _, a3, a4, a5, a6, a7⟩ := h.c
  have hl := h.lt
  have IV := Lib.hid iv
  rw [hd] at a3
  rw [find_none h1] at HFD
  obtain ⟨Ad, cd, hvd, _, _⟩ := own_slice h.2.d
  rw [hvd] at a5 HFD
  clear h iv hs hf hd hres HS a4 a6 a7 h1 hvd
  unfold ptrV at *
  go_enter Try.func58, Try.ntmps58
  go_wp2_with (fail)
  refine HFD.out.mono ?_
  rintro r w' ⟨rfl, rfl⟩
  go_wp2_with (fail)
  go_ret
  exact RefR.mk rfl ⟨v, HR.out⟩ (Kw.refl _ _)
set_option maxRecDepth 100000 in
set_option maxHeartbeats 4000000 in
theorem rremove_gone (b : Nat) (v : Rv) (s : DS) (n : ByteArray) (w : World) (h : RefAt w b v s) (iv : Inv s) (hs : s.steps < 1000000) (hf : s.files.length ≤ s.steps) (hd : s.down = false) {k : Nat} (h1 : look s.dir n = some k) (h4 : s.fuse = 1) :
    Calls Try.prog 58 #[ptrV b, .string n] w (RefR w b (s.remove n)) := by
  have hres : s.remove n = (9, s.gone) := by unfold DS.remove; rw [show agThere s n = 0 from by unfold agThere; rw [if_neg (by simp [h1])]]; exact step_gone hd h4
  rw [hres]
  have HS := Lib.hid (rstep_any b v s w h iv.ok.st iv.ok.fu)
  have HFD := Lib.hid (find_any v.d s.dir n w h.2.d (by have := iv.ok.dl; have := iv.ok.st; omega))
  have HR := Lib.hid h
  obtain ⟨_, _, _, a3, a4, a5, a6, a7⟩ := h.c
  have hl := h.lt
  have IV := Lib.hid iv
  rw [hd] at a3
  rw [find_some h1] at HFD
  rw [if_pos h4, if_pos h4] at HS
  obtain ⟨Ad, cd, hvd, _, _⟩ := own_slice h.2.d
  rw [hvd] at a5 HFD
  have hk0 : (0 : Int) ≤ (k : Int) := by omega
  clear h iv hs hf hd hres a4 a6 a7 h1 h4 hvd
  unfold ptrV at *
  go_enter Try.func58, Try.ntmps58
  go_wp2_with (fail)
  refine HFD.out.mono ?_
  rintro r w' ⟨rfl, rfl⟩
  go_wp2_with (fail)
  refine HS.out.mono ?_
  rintro r w1 ⟨rfl, hr1, hk1⟩
  go_wp2_with (fail)
  go_ret
  exact RefR.mk rfl ⟨v, hr1⟩ hk1
set_option maxRecDepth 100000 in
set_option maxHeartbeats 4000000 in
theorem rremove_do (b : Nat) (v : Rv) (s : DS) (n : ByteArray) (w : World) (h : RefAt w b v s) (iv : Inv s) (hs : s.steps < 1000000) (hf : s.files.length ≤ s.steps) (hd : s.down = false) {k : Nat} (h1 : look s.dir n = some k) (h4 : s.fuse ≠ 1) :
    Calls Try.prog 58 #[ptrV b, .string n] w (RefR w b (s.remove n)) := by
  have hres : s.remove n = (0, s.tick.chg ⟨n, ByteArray.empty, 0⟩) := by unfold DS.remove; rw [show agThere s n = 0 from by unfold agThere; rw [if_neg (by simp [h1])]]; exact step_do hd h4
  rw [hres]
  have HS := Lib.hid (rstep_any b v s w h iv.ok.st iv.ok.fu)
  have HFD := Lib.hid (find_any v.d s.dir n w h.2.d (by have := iv.ok.dl; have := iv.ok.st; omega))
  have HR := Lib.hid h
  obtain ⟨_, _, _, a3, a4, a5, a6, a7⟩ := h.c
  have hl := h.lt
  have IV := Lib.hid iv
  rw [hd] at a3
  rw [find_some h1] at HFD
  rw [if_neg h4, if_neg h4] at HS
  obtain ⟨Ad, cd, hvd, _, _⟩ := own_slice h.2.d
  rw [hvd] at a5 HFD
  have hk0 : (0 : Int) ≤ (k : Int) := by omega
  have HNE := Lib.hid (named_ne (named_dir iv h1))
  clear h iv hs hf hd hres a4 a6 a7 h1 h4 hvd
  unfold ptrV at *
  go_enter Try.func58, Try.ntmps58
  go_wp2_with (fail)
  refine HFD.out.mono ?_
  rintro r w' ⟨rfl, rfl⟩
  go_wp2_with (fail)
  refine HS.out.mono ?_
  rintro r w1 ⟨rfl, hr1, hk1⟩
  have K1 := Lib.hid hk1
  have HC := Lib.hid (rchange_any b _ s.tick ⟨n, ByteArray.empty, 0⟩ _ hr1 (by have := IV.out.ok.dl; have := IV.out.ok.st; show s.dir.length ≤ 1000000; omega) (by have := IV.out.ok.kl; have := IV.out.ok.st; show s.waits.length ≤ 1000000; omega) (fun e => absurd e HNE.out))
  rw [kind3 HNE.out] at HC
  unfold ptrV at HC
  clear hr1 hk1
  go_wp2_with (fail)
  refine HC.out.mono ?_
  rintro r w5 ⟨rfl, hr5, hk5⟩
  have HR5 := Lib.hid hr5
  clear hr5
  go_wp2_with (fail)
  go_ret
  exact RefR.mk rfl HR5.out (K1.out.trans hk5)
theorem rremove_any (b : Nat) (v : Rv) (s : DS) (n : ByteArray) (w : World) (h : RefAt w b v s) (iv : Inv s) (hs : s.steps < 1000000) (hf : s.files.length ≤ s.steps) :
    Calls Try.prog 58 #[ptrV b, .string n] w (RefR w b (s.remove n)) := by
  cases hd : s.down with
  | true => exact rremove_down b v s n w h iv hs hf hd
  | false =>
    cases h1 : look s.dir n with
    | none => exact rremove_none b v s n w h iv hs hf hd h1
    | some k =>
      by_cases h4 : s.fuse = 1
      · exact rremove_gone b v s n w h iv hs hf hd h1 h4
      · exact rremove_do b v s n w h iv hs hf hd h1 h4
end Go.Proofs.Ytjgiohlkpenipaa
