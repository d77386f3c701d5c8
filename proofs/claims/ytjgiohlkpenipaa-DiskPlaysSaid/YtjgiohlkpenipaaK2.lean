/- Contracts of the reference's SyncDir, Append, Sync. Conditions: as each theorem states them. -/
import Derived.Test.YtjgiohlkpenipaaK1
namespace Go.Proofs.Ytjgiohlkpenipaa
open Go.RowKit Go.Maps
set_option linter.unusedVariables false
set_option linter.unusedSimpArgs false

theorem own_put {w : World} {B e sz n g c j : Nat} {xs : List Value} {u : Value} (h : w.ownsRow B e sz (.slice (some ⟨g, 0, none⟩) n c) n xs) (hj : j < xs.length) : (w.setCell ⟨g, j, none⟩ u).ownsRow B e sz (.slice (some ⟨g, 0, none⟩) n c) n (xs.set j u) := by
  refine ⟨by rw [List.length_set]; exact h.1, .inr ?_⟩
  rcases h.2 with ⟨h0, _⟩ | ⟨g', c', cur, h0, h1, h2, h3, h4, h5, h6⟩
  · cases h0
  · cases h0
    refine ⟨g, c, cur.setIfInBounds j u, rfl, h1, set_heap h2, h3, h4, by simpa using h5, ?_⟩
    rw [← h6, Array.toList_setIfInBounds, List.take_set]
theorem fcells_data : ∀ (l : List Fl) (k : Nat) (h : k < l.length) (d : ByteArray), (fcells l).set (k * 2) (.string d) = fcells (l.set k ⟨d, (l[k]).sure⟩)
  | [], k, h, _ => absurd h (Nat.not_lt_zero _)
  | f :: l, 0, h, d => rfl
  | f :: l, k + 1, h, d => by
    have ih := fcells_data l k (by simpa using h) d
    rw [show (k + 1) * 2 = k * 2 + 2 from by omega]
    show (Value.string f.data :: Value.int .i64 f.sure :: fcells l).set (k * 2 + 2) (.string d) = Value.string f.data :: Value.int .i64 f.sure :: fcells (l.set k ⟨d, (l[k]'(by simpa using h)).sure⟩)
    rw [← ih]
    rfl
theorem fcells_sure : ∀ (l : List Fl) (k : Nat) (h : k < l.length) (n : Nat), (fcells l).set (k * 2 + 1) (.int .i64 n) = fcells (l.set k ⟨(l[k]).data, n⟩)
  | [], k, h, _ => absurd h (Nat.not_lt_zero _)
  | f :: l, 0, h, d => rfl
  | f :: l, k + 1, h, d => by
    have ih := fcells_sure l k (by simpa using h) d
    rw [show (k + 1) * 2 + 1 = k * 2 + 1 + 2 from by omega]
    show (Value.string f.data :: Value.int .i64 f.sure :: fcells l).set (k * 2 + 1 + 2) (.int .i64 d) = Value.string f.data :: Value.int .i64 f.sure :: fcells (l.set k ⟨(l[k]'(by simpa using h)).data, d⟩)
    rw [← ih]
    rfl
theorem RefAt.file1 {W : World} {b g c j : Nat} {v : Rv} {s : DS} (h : RefAt W b v s) (hv : v.f = .slice (some ⟨g, 0, none⟩) s.files.length c) {u : Value} {l : List Fl} (hj : j < (fcells s.files).length) (hl : (fcells s.files).set j u = fcells l) (hll : l.length = s.files.length) : RefAt (W.setCell ⟨g, j, none⟩ u) b v { s with files := l } := by
  have hf := h.2.f
  rw [hv] at hf
  obtain ⟨_, cur, hg⟩ := own_blk hf (g := g) rfl
  have k : Kw (fun x => x = g) W (W.setCell ⟨g, j, none⟩ u) := (Kw.refl (fun x => x = g) W).setCell (p := ⟨g, j, none⟩) rfl u
  have hne : ∀ {e sz n : Nat} {u : Value} {xs : List Value} (h : W.ownsRow 0 e sz u n xs), e ≠ 97 → ∀ q, u.ownBlock = some q → ¬ q = g := fun {e sz n u xs} h he q hq hs => by
    obtain ⟨_, cur, h3⟩ := own_blk h hq
    rw [hs, hg] at h3
    cases h3
    exact he rfl
  have hb : ¬ b = g := fun e => by
    have h1 := h.1
    rw [e, hg] at h1
    cases h1
  refine ⟨(k.block b h.lt hb).trans h.1, ?_, own_kw h.2.d k (hne h.2.d (by decide)), own_kw h.2.k k (hne h.2.k (by decide)), own_kw h.2.w k (hne h.2.w (by decide))⟩
  have h2 := own_put (u := u) hf hj
  rw [hl] at h2
  show (W.setCell ⟨g, j, none⟩ u).ownsRow 0 97 2 v.f l.length (fcells l)
  rw [hv, hll]
  exact h2
theorem Kw.setNew {S : Nat → Prop} {a w : World} (h : Kw S a w) {p : Addr} (hp : a.heap.size ≤ p.block) (v : Value) : Kw S a (w.setCell p v) :=
  ⟨h.os, h.tape, h.output, by simpa [World.setCell] using h.size, fun b hb hs => (Below.heap_setCell w p v b (fun e => by omega)).trans (h.block b hb hs)⟩
theorem u48 : Try.prog.underlying 48 = some (.slice 97) := und48
set_option maxRecDepth 100000 in
set_option maxHeartbeats 4000000 in
theorem rsyncdir_down (b : Nat) (v : Rv) (s : DS)  (w : World) (h : RefAt w b v s) (iv : Inv s) (hs : s.steps < 1000000) (hf : s.files.length ≤ s.steps) (hd : s.down = true) :
    Calls Try.prog 56 #[ptrV b] w (RefR w b (s.dsync)) := by
  have hres : s.dsync = (9, s) := by unfold DS.dsync; exact step_down hd
  rw [hres]
  have HS := Lib.hid (rstep_any b v s w h iv.ok.st iv.ok.fu)
  have HR := Lib.hid h
  obtain ⟨_, _, _, a3, a4, a5, a6, a7⟩ := h.c
  have hl := h.lt
  have IV := Lib.hid iv
  rw [hd] at a3
  clear h iv hs hf hd hres HS a4 a5 a6 a7
  unfold ptrV at *
  go_enter Try.func56, Try.ntmps56
  go_wp2_with (fail)
  go_ret
  exact RefR.mk rfl ⟨v, HR.out⟩ (Kw.refl _ _)
set_option maxRecDepth 100000 in
set_option maxHeartbeats 4000000 in
theorem rsyncdir_gone (b : Nat) (v : Rv) (s : DS)  (w : World) (h : RefAt w b v s) (iv : Inv s) (hs : s.steps < 1000000) (hf : s.files.length ≤ s.steps) (hd : s.down = false) (h4 : s.fuse = 1) :
    Calls Try.prog 56 #[ptrV b] w (RefR w b (s.dsync)) := by
  have hres : s.dsync = (9, s.gone) := by unfold DS.dsync; exact step_gone hd h4
  rw [hres]
  have HS := Lib.hid (rstep_any b v s w h iv.ok.st iv.ok.fu)
  have HR := Lib.hid h
  obtain ⟨_, _, _, a3, a4, a5, a6, a7⟩ := h.c
  have hl := h.lt
  have IV := Lib.hid iv
  rw [hd] at a3
  rw [if_pos h4, if_pos h4] at HS
  clear h iv hs hf hd hres a4 a5 a6 a7 h4
  unfold ptrV at *
  go_enter Try.func56, Try.ntmps56
  go_wp2_with (fail)
  refine HS.out.mono ?_
  rintro r w1 ⟨rfl, hr1, hk1⟩
  go_wp2_with (fail)
  go_ret
  exact RefR.mk rfl ⟨v, hr1⟩ hk1
set_option maxRecDepth 100000 in
set_option maxHeartbeats 4000000 in
theorem rsyncdir_do (b : Nat) (v : Rv) (s : DS)  (w : World) (h : RefAt w b v s) (iv : Inv s) (hs : s.steps < 1000000) (hf : s.files.length ≤ s.steps) (hd : s.down = false) (h4 : s.fuse ≠ 1) :
    Calls Try.prog 56 #[ptrV b] w (RefR w b (s.dsync)) := by
  have hres : s.dsync = (0, s.tick.sync) := by unfold DS.dsync; exact step_do hd h4
  rw [hres]
  have HS := Lib.hid (rstep_any b v s w h iv.ok.st iv.ok.fu)
  have HR := Lib.hid h
  obtain ⟨_, _, _, a3, a4, a5, a6, a7⟩ := h.c
  have hl := h.lt
  have IV := Lib.hid iv
  rw [hd] at a3
  rw [if_neg h4, if_neg h4] at HS
  clear h iv hs hf hd hres a4 a5 a6 a7 h4
  unfold ptrV at *
  go_enter Try.func56, Try.ntmps56
  go_wp2_with (fail)
  refine HS.out.mono ?_
  rintro r w1 ⟨rfl, hr1, hk1⟩
  have R1 := Lib.hid hr1
  have K1 := Lib.hid hk1
  clear hr1 hk1
  obtain ⟨Ad, cd, hvd, _, _⟩ := own_slice R1.out.2.d
  obtain ⟨M, hM⟩ : ∃ M, s.dir.length = M := ⟨_, rfl⟩
  have hM2 : s.tick.dir.length = M := hM
  have HM := Lib.hid hM
  rw [hM2] at hvd
  have HF : Hid (∀ z, Below w1.heap.size w1 z → z.ownsRow 0 104 2 (.slice Ad M cd) M (ecells s.dir) ∧ z.cell? ⟨b, 5, none⟩ = some (.slice Ad M cd) ∧ (∀ i, z.frozen? ⟨b, i, none⟩ = false) ∧ b < z.heap.size ∧ z.cell? ⟨b, 6, none⟩ = some v.k ∧ z.cell? ⟨b, 7, none⟩ = some v.w) := Lib.hid (fun z k => by
    have hz := R1.out.below k
    have h1 := hz.2.d
    have h2 := hz.c.2.2.2.2.2
    rw [hvd, hM2] at h1
    rw [hvd] at h2
    exact ⟨h1, h2.1, hz.fz, hz.lt, h2.2⟩)
  have HMB : Hid (M ≤ 1000000) := Lib.hid (by have := IV.out.ok.dl; have := IV.out.ok.st; omega)
  obtain ⟨_, c0, _, cl, _⟩ := HF.out w1 (Below.refl _ _)
  clear hvd hM hM2
  have k0 := bl_alloc (Below.refl w1.heap.size w1) (Obj.cells #[] 104)
  have HE0 : Hid ((w1.alloc (Obj.cells #[] 104)).ownsRow w1.heap.size 104 2 (.slice (some ⟨w1.heap.size, 0, none⟩) 0 0) 0 []) := Lib.hid (em_own (new_heap _ _) (Nat.le_refl _))
  have HF0 := Lib.hid (HF.out _ k0).1
  have HK0 := Lib.hid k0
  have HN0 : Hid (0 + M ≤ 4000000) := Lib.hid (by have := HMB.out; omega)
  clear k0
  go_wp2_with (at_builtin; refine wpList_append_row _ rfl (.tmp 13) (.tmp 17) 49 104 2 24 _ und49 i104 rfl (by decide) (by decide) rfl w1.heap.size 0 0 (.slice (some ⟨w1.heap.size, 0, none⟩) 0 0) [] rfl HE0.out (.slice Ad M cd) M (ecells s.dir) rfl HF0.out (ecells_one _) HN0.out HK0.out.size ?_; intro v1 w4 hown2 hgr1; have hbB := bl_grow HK0.out HK0.out.size HE0.out hgr1; obtain ⟨A4, c4, rfl, _, hg4⟩ := own_slice hown2; obtain ⟨_, _, sff, sl, s6, s7⟩ := HF.out w4 hbB; have sf6 := sff 6; have sf7 := sff 7; clear sff)
  have hR2 : RefAt ((w4.setCell ⟨b, 6, none⟩ (.slice A4 M c4)).setCell ⟨b, 7, none⟩ (.slice none 0 0)) b { v with k := .slice A4 M c4, w := .slice none 0 0 } s.tick.sync := by
    have hll : 0 + M = s.tick.dir.length := by show 0 + M = s.dir.length; rw [HM.out]; omega
    rw [hll, List.nil_append] at hown2
    have hz := ((R1.out.below hbB).setK hown2).setW (B := 0) (u := .slice none 0 0) (l := []) ⟨rfl, .inl ⟨rfl, rfl⟩⟩
    rw [← hll, Nat.zero_add] at hz
    exact hz
  have hK2 := K1.out.trans (((Kw.ofBelow (S := fun x => x = b) hbB).setCell (p := ⟨b, 6, none⟩) rfl (.slice A4 M c4)).setCell (p := ⟨b, 7, none⟩) rfl (.slice none 0 0))
  have HR2 := Lib.hid hR2
  have HK2 := Lib.hid hK2
  clear hown2 hgr1 hbB hR2 hK2
  go_wp2_with (fail)
  go_ret
  exact RefR.mk rfl ⟨_, HR2.out⟩ HK2.out
theorem rsyncdir_any (b : Nat) (v : Rv) (s : DS)  (w : World) (h : RefAt w b v s) (iv : Inv s) (hs : s.steps < 1000000) (hf : s.files.length ≤ s.steps) :
    Calls Try.prog 56 #[ptrV b] w (RefR w b (s.dsync)) := by
  cases hd : s.down with
  | true => exact rsyncdir_down b v s w h iv hs hf hd
  | false =>
    by_cases h4 : s.fuse = 1
    · exact rsyncdir_gone b v s w h iv hs hf hd h4
    · exact rsyncdir_do b v s w h iv hs hf hd h4
set_option maxRecDepth 100000 in
set_option maxHeartbeats 4000000 in
theorem rsync_down (b : Nat) (v : Rv) (s : DS) (n : ByteArray) (w : World) (h : RefAt w b v s) (iv : Inv s) (hs : s.steps < 1000000) (hf : s.files.length ≤ s.steps) (hd : s.down = true) :
    Calls Try.prog 55 #[ptrV b, .string n] w (RefR w b (s.fsync n)) := by
  have hres : s.fsync n = (9, s) := by unfold DS.fsync; exact step_down hd
  rw [hres]
  have HS := Lib.hid (rstep_any b v s w h iv.ok.st iv.ok.fu)
  have HFD := Lib.hid (find_any v.d s.dir n w h.2.d (by have := iv.ok.dl; have := iv.ok.st; omega))
  have HR := Lib.hid h
  obtain ⟨_, _, _, a3, a4, a5, a6, a7⟩ := h.c
  have hl := h.lt
  have IV := Lib.hid iv
  rw [hd] at a3
  clear h iv hs hf hd hres HS HFD a4 a5 a6 a7
  unfold ptrV at *
  go_enter Try.func55, Try.ntmps55
  go_wp2_with (fail)
  go_ret
  exact RefR.mk rfl ⟨v, HR.out⟩ (Kw.refl _ _)
set_option maxRecDepth 100000 in
set_option maxHeartbeats 4000000 in
theorem rsync_none (b : Nat) (v : Rv) (s : DS) (n : ByteArray) (w : World) (h : RefAt w b v s) (iv : Inv s) (hs : s.steps < 1000000) (hf : s.files.length ≤ s.steps) (hd : s.down = false) (h1 : look s.dir n = none) :
    Calls Try.prog 55 #[ptrV b, .string n] w (RefR w b (s.fsync n)) := by
  have hres : s.fsync n = (4, s) := by unfold DS.fsync; rw [show agThere s n = 4 from by unfold agThere; rw [if_pos h1]]; exact step_no hd (by decide)
  rw [hres]
  have HS := Lib.hid (rstep_any b v s w h iv.ok.st iv.ok.fu)
  have HFD := Lib.hid (find_any v.d s.dir n w h.2.d (by have := iv.ok.dl; have := iv.ok.st; omega))
  have HR := Lib.hid h
  obtain ⟨_, _, _, a3, a4, a5, a6, a7⟩ := h.c
  have hl := h.lt
  have IV := Lib.hid iv
  rw [hd] at a3
  rw [find_none h1] at HFD
  obtain ⟨Ad, cd, hvd, _, _⟩ := own_slice h.2.d
  rw [hvd] at a5 HFD
  clear h iv hs hf hd hres HS a4 a6 a7 h1 hvd
  unfold ptrV at *
  go_enter Try.func55, Try.ntmps55
  go_wp2_with (fail)
  refine HFD.out.mono ?_
  rintro r w' ⟨rfl, rfl⟩
  go_wp2_with (fail)
  go_ret
  exact RefR.mk rfl ⟨v, HR.out⟩ (Kw.refl _ _)
set_option maxRecDepth 100000 in
set_option maxHeartbeats 4000000 in
theorem rsync_gone (b : Nat) (v : Rv) (s : DS) (n : ByteArray) (w : World) (h : RefAt w b v s) (iv : Inv s) (hs : s.steps < 1000000) (hf : s.files.length ≤ s.steps) (hd : s.down = false) {k : Nat} (h1 : look s.dir n = some k) (h4 : s.fuse = 1) :
    Calls Try.prog 55 #[ptrV b, .string n] w (RefR w b (s.fsync n)) := by
  have hres : s.fsync n = (9, s.gone) := by unfold DS.fsync; rw [show agThere s n = 0 from by unfold agThere; rw [if_neg (by simp [h1])]]; exact step_gone hd h4
  rw [hres]
  have HS := Lib.hid (rstep_any b v s w h iv.ok.st iv.ok.fu)
  have HFD := Lib.hid (find_any v.d s.dir n w h.2.d (by have := iv.ok.dl; have := iv.ok.st; omega))
  have HR := Lib.hid h
  obtain ⟨_, _, _, a3, a4, a5, a6, a7⟩ := h.c
  have hl := h.lt
  have IV := Lib.hid iv
  rw [hd] at a3
  rw [find_some h1] at HFD
  rw [if_pos h4, if_pos h4] at HS
  obtain ⟨Ad, cd, hvd, _, _⟩ := own_slice h.2.d
  rw [hvd] at a5 HFD
  have hk0 : (0 : Int) ≤ (k : Int) := by omega
  clear h iv hs hf hd hres a4 a6 a7 h1 h4 hvd
  unfold ptrV at *
  go_enter Try.func55, Try.ntmps55
  go_wp2_with (fail)
  refine HFD.out.mono ?_
  rintro r w' ⟨rfl, rfl⟩
  go_wp2_with (fail)
  refine HS.out.mono ?_
  rintro r w1 ⟨rfl, hr1, hk1⟩
  go_wp2_with (fail)
  go_ret
  exact RefR.mk rfl ⟨v, hr1⟩ hk1
set_option maxRecDepth 100000 in
set_option maxHeartbeats 4000000 in
theorem rsync_do (b : Nat) (v : Rv) (s : DS) (n : ByteArray) (w : World) (h : RefAt w b v s) (iv : Inv s) (hs : s.steps < 1000000) (hf : s.files.length ≤ s.steps) (hd : s.down = false) {k : Nat} (h1 : look s.dir n = some k) (h4 : s.fuse ≠ 1) (fb : Fb s) :
    Calls Try.prog 55 #[ptrV b, .string n] w (RefR w b (s.fsync n)) := by
  have hres : s.fsync n = (0, s.tick.setF k ⟨(s.tick.file k).data, (s.tick.file k).data.size⟩) := by unfold DS.fsync; rw [show agThere s n = 0 from by unfold agThere; rw [if_neg (by simp [h1])]]; rw [show s.at_ n = k from by unfold DS.at_; rw [h1]; rfl]; exact step_do hd h4
  rw [hres]
  have HS := Lib.hid (rstep_any b v s w h iv.ok.st iv.ok.fu)
  have HFD := Lib.hid (find_any v.d s.dir n w h.2.d (by have := iv.ok.dl; have := iv.ok.st; omega))
  have HR := Lib.hid h
  obtain ⟨_, _, _, a3, a4, a5, a6, a7⟩ := h.c
  have hl := h.lt
  have IV := Lib.hid iv
  rw [hd] at a3
  have hsl : s.files.length ≤ 1000000 := by omega
  have HKF : Hid (k < s.files.length) := Lib.hid (fb _ (look_some h1))
  rw [find_some h1] at HFD
  rw [if_neg h4, if_neg h4] at HS
  obtain ⟨Ad, cd, hvd, _, _⟩ := own_slice h.2.d
  rw [hvd] at a5 HFD
  have hk0 : (0 : Int) ≤ (k : Int) := by omega
  clear h iv hf hd hres a4 a6 a7 h1 h4 hvd fb
  unfold ptrV at *
  go_enter Try.func55, Try.ntmps55
  go_wp2_with (fail)
  refine HFD.out.mono ?_
  rintro r w' ⟨rfl, rfl⟩
  go_wp2_with (fail)
  refine HS.out.mono ?_
  rintro r w1 ⟨rfl, hr1, hk1⟩
  have R1 := Lib.hid hr1
  have K1 := Lib.hid hk1
  clear hr1 hk1
  obtain ⟨Af, cf, hvf, _, _⟩ := own_slice R1.out.2.f
  obtain ⟨M, hM⟩ : ∃ M, s.files.length = M := ⟨_, rfl⟩
  have hM2 : s.tick.files.length = M := hM
  have HM := Lib.hid hM
  rw [hM2] at hvf
  have HF : Hid (∀ z, Below w1.heap.size w1 z → z.ownsRow 0 97 2 (.slice Af M cf) M (fcells s.files) ∧ z.cell? ⟨b, 4, none⟩ = some (.slice Af M cf) ∧ z.frozen? ⟨b, 4, none⟩ = false ∧ b < z.heap.size) := Lib.hid (fun z k => by
    have hz := R1.out.below k
    have h1 := hz.2.f
    have h2 := hz.c.2.2.2.2.1
    rw [hvf, hM2] at h1
    rw [hvf] at h2
    exact ⟨h1, h2, hz.fz 4, hz.lt⟩)
  have HMB : Hid (M ≤ 1000000) := Lib.hid (by omega)
  obtain ⟨c0, cz⟩ := (HF.out w1 (Below.refl _ _)).2
  obtain ⟨cz, cl⟩ := cz
  clear hvf hM hM2 cz
  have k0 := bl_alloc (Below.refl w1.heap.size w1) (Obj.cells #[] 97)
  have HE0 : Hid ((w1.alloc (Obj.cells #[] 97)).ownsRow w1.heap.size 97 2 (.slice (some ⟨w1.heap.size, 0, none⟩) 0 0) 0 []) := Lib.hid (em_own (new_heap _ _) (Nat.le_refl _))
  have HF0 := Lib.hid (HF.out _ k0).1
  have HK0 := Lib.hid k0
  have HN0 : Hid (0 + M ≤ 4000000) := Lib.hid (by have := HMB.out; omega)
  clear k0
  go_wp2_with (at_builtin; refine wpList_append_row _ rfl (.tmp 24) (.tmp 28) 48 97 2 24 _ und48 i97 rfl (by decide) (by decide) rfl w1.heap.size 0 0 (.slice (some ⟨w1.heap.size, 0, none⟩) 0 0) [] rfl HE0.out (.slice Af M cf) M (fcells s.files) rfl HF0.out (fcells_one _) HN0.out HK0.out.size ?_; intro v1 w4 hown2 hgr1; have hbB := bl_grow HK0.out HK0.out.size HE0.out hgr1; obtain ⟨A4, c4, rfl, _, hg4⟩ := own_slice hown2; obtain ⟨_, sc, sf, sl⟩ := HF.out w4 hbB)
  obtain ⟨g, rfl⟩ : ∃ g, A4 = some ⟨g, 0, none⟩ := hg4.resolve_left (by have := HKF.out; have := HM.out; omega)
  have hR2 : RefAt (w4.setCell ⟨b, 4, none⟩ (.slice (some ⟨g, 0, none⟩) M c4)) b { v with f := .slice (some ⟨g, 0, none⟩) M c4 } s.tick := by
    have hll : 0 + M = s.tick.files.length := by show 0 + M = s.files.length; rw [HM.out]; omega
    rw [hll, List.nil_append] at hown2
    have hz := (R1.out.below hbB).setF hown2
    rw [← hll, Nat.zero_add] at hz
    exact hz
  have hgB : w1.heap.size ≤ g := (own_blk hown2 (g := g) rfl).1
  have hK2 := K1.out.trans ((Kw.ofBelow (S := fun x => x = b) hbB).setCell (p := ⟨b, 4, none⟩) rfl (.slice (some ⟨g, 0, none⟩) M c4))
  have HGB : Hid (w.heap.size ≤ g) := Lib.hid (Nat.le_trans K1.out.size hgB)
  have HR2 := Lib.hid hR2
  have HK2 := Lib.hid hK2
  clear hown2 hgr1 hbB sc sf sl hR2 hK2 hgB c0 cl hg4 HF HF0 HK0 HE0
  generalize (w4.setCell ⟨b, 4, none⟩ (.slice (some ⟨g, 0, none⟩) M c4)) = W4 at *
  obtain ⟨gl, _, gc, gf, _⟩ := row_cells (g := g) (n := M) (c := c4) (xs := fcells s.files) (by have h1 := HR2.out.2.f; rw [show s.tick.files.length = M from HM.out] at h1; exact h1)
  have r0 := gc _ _ (fcells_at HKF.out).1
  have r1 := gc _ _ (fcells_at HKF.out).2
  have f0 := gf (k * 2)
  have f1 := gf (k * 2 + 1)
  have b4 := HR2.out.c.2.2.2.2.1
  have bl := HR2.out.lt
  have hk1 : (k : Int) < (M : Int) := by have := HKF.out; have := HM.out; omega
  obtain ⟨fk, hfk⟩ : ∃ fk, s.files[k]'HKF.out = fk := ⟨_, rfl⟩
  have HFK := Lib.hid hfk
  rw [hfk] at r0 r1
  obtain ⟨D, su⟩ := fk
  dsimp only at r0 r1 b4
  clear gc gf hfk
  go_region
  all_goals (
    have hR3 := HR2.out.file1 (g := g) (c := c4) (j := k * 2 + 1) (u := .int .i64 (D.size : Nat)) (by show _ = Value.slice _ s.files.length _; rw [HM.out]) (by show _ < (fcells s.files).length; rw [fcells_len]; have := HKF.out; omega) (fcells_sure s.files k HKF.out _) (by rw [List.length_set]; rfl)
    have HR3 := Lib.hid hR3
    have HK3 := Lib.hid (HK2.out.setNew (p := ⟨g, k * 2 + 1, none⟩) HGB.out (.int .i64 (D.size : Nat)))
    clear hR3
    go_wp2_with (fail)
    go_ret
    refine RefR.mk rfl ⟨{ v with f := .slice (some ⟨g, 0, none⟩) M c4 }, ?_⟩ HK3.out.drew
    have h5 := HR3.out.below (Below.refl _ _).drew
    rw [HFK.out] at h5
    have h6 : s.tick.file k = ⟨D, su⟩ := (file_at HKF.out).trans HFK.out
    rw [h6]
    exact h5)
theorem rsync_any (b : Nat) (v : Rv) (s : DS) (n : ByteArray) (fb : Fb s) (w : World) (h : RefAt w b v s) (iv : Inv s) (hs : s.steps < 1000000) (hf : s.files.length ≤ s.steps) :
    Calls Try.prog 55 #[ptrV b, .string n] w (RefR w b (s.fsync n)) := by
  cases hd : s.down with
  | true => exact rsync_down b v s n w h iv hs hf hd
  | false =>
    cases h1 : look s.dir n with
    | none => exact rsync_none b v s n w h iv hs hf hd h1
    | some k =>
      by_cases h4 : s.fuse = 1
      · exact rsync_gone b v s n w h iv hs hf hd h1 h4
      · exact rsync_do b v s n w h iv hs hf hd h1 h4 fb
set_option maxRecDepth 100000 in
set_option maxHeartbeats 4000000 in
theorem rappend_down (b : Nat) (v : Rv) (s : DS) (n data : ByteArray) (w : World) (h : RefAt w b v s) (iv : Inv s) (hs : s.steps < 1000000) (hf : s.files.length ≤ s.steps) (hd : s.down = true) :
    Calls Try.prog 54 #[ptrV b, .string n, .string data] w (RefR w b (s.append n data)) := by
  have hres : s.append n data = (9, s) := by unfold DS.append; exact step_down hd
  rw [hres]
  have HS := Lib.hid (rstep_any b v s w h iv.ok.st iv.ok.fu)
  have HFD := Lib.hid (find_any v.d s.dir n w h.2.d (by have := iv.ok.dl; have := iv.ok.st; omega))
  have HR := Lib.hid h
  obtain ⟨_, _, _, a3, a4, a5, a6, a7⟩ := h.c
  have hl := h.lt
  have IV := Lib.hid iv
  rw [hd] at a3
  clear h iv hs hf hd hres HS HFD a4 a5 a6 a7
  unfold ptrV at *
  go_enter Try.func54, Try.ntmps54
  go_wp2_with (fail)
  go_ret
  exact RefR.mk rfl ⟨v, HR.out⟩ (Kw.refl _ _)
set_option maxRecDepth 100000 in
set_option maxHeartbeats 4000000 in
theorem rappend_none (b : Nat) (v : Rv) (s : DS) (n data : ByteArray) (w : World) (h : RefAt w b v s) (iv : Inv s) (hs : s.steps < 1000000) (hf : s.files.length ≤ s.steps) (hd : s.down = false) (h1 : look s.dir n = none) :
    Calls Try.prog 54 #[ptrV b, .string n, .string data] w (RefR w b (s.append n data)) := by
  have hres : s.append n data = (4, s) := by unfold DS.append; rw [show agAppend s n data = 4 from by unfold agAppend; rw [if_pos h1]]; exact step_no hd (by decide)
  rw [hres]
  have HS := Lib.hid (rstep_any b v s w h iv.ok.st iv.ok.fu)
  have HFD := Lib.hid (find_any v.d s.dir n w h.2.d (by have := iv.ok.dl; have := iv.ok.st; omega))
  have HR := Lib.hid h
  obtain ⟨_, _, _, a3, a4, a5, a6, a7⟩ := h.c
  have hl := h.lt
  have IV := Lib.hid iv
  rw [hd] at a3
  rw [find_none h1] at HFD
  obtain ⟨Ad, cd, hvd, _, _⟩ := own_slice h.2.d
  rw [hvd] at a5 HFD
  clear h iv hs hf hd hres HS a4 a6 a7 h1 hvd
  unfold ptrV at *
  go_enter Try.func54, Try.ntmps54
  go_wp2_with (fail)
  refine HFD.out.mono ?_
  rintro r w' ⟨rfl, rfl⟩
  go_wp2_with (fail)
  go_ret
  exact RefR.mk rfl ⟨v, HR.out⟩ (Kw.refl _ _)
set_option maxRecDepth 100000 in
set_option maxHeartbeats 4000000 in
theorem rappend_room (b : Nat) (v : Rv) (s : DS) (n data : ByteArray) (w : World) (h : RefAt w b v s) (iv : Inv s) (hs : s.steps < 1000000) (hf : s.files.length ≤ s.steps) (hd : s.down = false) {k : Nat} (h1 : look s.dir n = some k) (hr : (s.room : Int) - s.used < data.size) (fb : Fb s) :
    Calls Try.prog 54 #[ptrV b, .string n, .string data] w (RefR w b (s.append n data)) := by
  have hres : s.append n data = (8, s) := by unfold DS.append; rw [show agAppend s n data = 8 from by unfold agAppend; rw [if_neg (by simp [h1]), if_pos hr]]; exact step_no hd (by decide)
  rw [hres]
  have HS := Lib.hid (rstep_any b v s w h iv.ok.st iv.ok.fu)
  have HFD := Lib.hid (find_any v.d s.dir n w h.2.d (by have := iv.ok.dl; have := iv.ok.st; omega))
  have HR := Lib.hid h
  obtain ⟨_, _, _, a3, a4, a5, a6, a7⟩ := h.c
  have hl := h.lt
  have IV := Lib.hid iv
  rw [hd] at a3
  rw [find_some h1] at HFD
  have hub := iv.ok.usedB
  have hrm := iv.ok.rm
  obtain ⟨Af, cf, Ad, cd, Ak, ck, Aw, cw, rfl⟩ := h.2.forms
  have HUU : Hid (∀ X : Ext w, Calls Try.prog 63 #[refV s ⟨.slice Af s.files.length cf, .slice Ad s.dir.length cd, .slice Ak s.kept.length ck, .slice Aw s.waits.length cw⟩] X.val fun e w' => e = .returned (.int .i64 (s.used : Nat)) ∧ ∃ y : Ext w, w' = y.val) := Lib.hid (fun X => ext_calls (rused_any _ s X.val (h.2.below X.bl) fb (by have := iv.ok.sum; omega)))
  obtain ⟨x0, x1, x2, _⟩ := h.c
  have e0 := ext_cell x0
  have e1 := ext_cell x1
  have e2 := ext_cell x2
  have e3 := ext_cell a3
  have e4 := ext_cell a4
  have e5 := ext_cell a5
  have e6 := ext_cell a6
  have e7 := ext_cell a7
  unfold refV rcells at HUU
  rw [hd] at HUU
  dsimp only at HUU HFD a5 e4 e5 e6 e7
  have ge1 : -9223372036854775808 ≤ (s.room : Int) - (s.used : Int) := by omega
  have ge2 : (s.room : Int) - (s.used : Int) < 9223372036854775808 := by omega
  clear hrm hub x0 x1 x2
  generalize s.used = U at *
  have hk0 : (0 : Int) ≤ (k : Int) := by omega
  clear h iv hs hf hd hres HS a4 a6 a7 h1 fb
  unfold ptrV at *
  go_enter Try.func54, Try.ntmps54
  go_wp2_with (fail)
  refine HFD.out.mono ?_
  rintro r w' ⟨rfl, rfl⟩
  go_wp2_with (fail)
  refine wp_region_ext (by kernel_rfl) (by kernel_rfl) ?_
  repeat (go_big_quiet_step (first | (go_at_call 63; refine HUU.out _)))
  refine wpQuiet_nil ?_
  rintro w2 ⟨⟨_, hb2⟩, rfl⟩
  have HB2 := Lib.hid hb2
  clear hb2 a3 a5 e0 e1 e2 e3 e4 e5 e6 e7
  go_wp2_with (fail)
  go_ret
  exact RefR.mk rfl ⟨_, HR.out.below HB2.out⟩ (Kw.ofBelow HB2.out)
set_option maxRecDepth 100000 in
set_option maxHeartbeats 4000000 in
theorem rappend_gone (b : Nat) (v : Rv) (s : DS) (n data : ByteArray) (w : World) (h : RefAt w b v s) (iv : Inv s) (hs : s.steps < 1000000) (hf : s.files.length ≤ s.steps) (hd : s.down = false) {k : Nat} (h1 : look s.dir n = some k) (hr : ¬ (s.room : Int) - s.used < data.size) (fb : Fb s) (h4 : s.fuse = 1) :
    Calls Try.prog 54 #[ptrV b, .string n, .string data] w (RefR w b (s.append n data)) := by
  have hres : s.append n data = (9, s.gone) := by unfold DS.append; rw [show agAppend s n data = 0 from by unfold agAppend; rw [if_neg (by simp [h1]), if_neg hr]]; exact step_gone hd h4
  rw [hres]
  have HS := Lib.hid (rstep_any b v s w h iv.ok.st iv.ok.fu)
  have HFD := Lib.hid (find_any v.d s.dir n w h.2.d (by have := iv.ok.dl; have := iv.ok.st; omega))
  have HR := Lib.hid h
  obtain ⟨_, _, _, a3, a4, a5, a6, a7⟩ := h.c
  have hl := h.lt
  have IV := Lib.hid iv
  rw [hd] at a3
  have HSX := Lib.hid (fun W (k : Below w.heap.size w W) => rstep_any b v s W (h.below k) iv.ok.st iv.ok.fu)
  rw [find_some h1] at HFD
  simp only [if_pos h4] at HSX
  have hub := iv.ok.usedB
  have hrm := iv.ok.rm
  obtain ⟨Af, cf, Ad, cd, Ak, ck, Aw, cw, rfl⟩ := h.2.forms
  have HUU : Hid (∀ X : Ext w, Calls Try.prog 63 #[refV s ⟨.slice Af s.files.length cf, .slice Ad s.dir.length cd, .slice Ak s.kept.length ck, .slice Aw s.waits.length cw⟩] X.val fun e w' => e = .returned (.int .i64 (s.used : Nat)) ∧ ∃ y : Ext w, w' = y.val) := Lib.hid (fun X => ext_calls (rused_any _ s X.val (h.2.below X.bl) fb (by have := iv.ok.sum; omega)))
  obtain ⟨x0, x1, x2, _⟩ := h.c
  have e0 := ext_cell x0
  have e1 := ext_cell x1
  have e2 := ext_cell x2
  have e3 := ext_cell a3
  have e4 := ext_cell a4
  have e5 := ext_cell a5
  have e6 := ext_cell a6
  have e7 := ext_cell a7
  unfold refV rcells at HUU
  rw [hd] at HUU
  dsimp only at HUU HFD a5 e4 e5 e6 e7
  have ge1 : -9223372036854775808 ≤ (s.room : Int) - (s.used : Int) := by omega
  have ge2 : (s.room : Int) - (s.used : Int) < 9223372036854775808 := by omega
  clear hrm hub x0 x1 x2
  generalize s.used = U at *
  have hk0 : (0 : Int) ≤ (k : Int) := by omega
  clear h iv hs hf hd hres HS a4 a6 a7 h1 fb h4
  unfold ptrV at *
  go_enter Try.func54, Try.ntmps54
  go_wp2_with (fail)
  refine HFD.out.mono ?_
  rintro r w' ⟨rfl, rfl⟩
  go_wp2_with (fail)
  refine wp_region_ext (by kernel_rfl) (by kernel_rfl) ?_
  repeat (go_big_quiet_step (first | (go_at_call 63; refine HUU.out _)))
  refine wpQuiet_nil ?_
  rintro w2 ⟨⟨_, hb2⟩, rfl⟩
  have HB2 := Lib.hid hb2
  clear hb2 a3 a5 e0 e1 e2 e3 e4 e5 e6 e7
  go_wp2_with (fail)
  refine (HSX.out _ HB2.out).mono ?_
  rintro r w1 ⟨rfl, hr1, hk1⟩
  go_wp2_with (fail)
  go_ret
  exact RefR.mk rfl ⟨_, hr1⟩ ((Kw.ofBelow HB2.out).trans hk1)
set_option maxRecDepth 100000 in
set_option maxHeartbeats 4000000 in
theorem rappend_do (b : Nat) (v : Rv) (s : DS) (n data : ByteArray) (w : World) (h : RefAt w b v s) (iv : Inv s) (hs : s.steps < 1000000) (hf : s.files.length ≤ s.steps) (hd : s.down = false) {k : Nat} (h1 : look s.dir n = some k) (hr : ¬ (s.room : Int) - s.used < data.size) (fb : Fb s) (h4 : s.fuse ≠ 1) :
    Calls Try.prog 54 #[ptrV b, .string n, .string data] w (RefR w b (s.append n data)) := by
  have hres : s.append n data = (0, s.tick.setF k ⟨(s.tick.file k).data ++ data, (s.tick.file k).sure⟩) := by unfold DS.append; rw [show agAppend s n data = 0 from by unfold agAppend; rw [if_neg (by simp [h1]), if_neg hr]]; rw [show s.at_ n = k from by unfold DS.at_; rw [h1]; rfl]; exact step_do hd h4
  rw [hres]
  have HS := Lib.hid (rstep_any b v s w h iv.ok.st iv.ok.fu)
  have HFD := Lib.hid (find_any v.d s.dir n w h.2.d (by have := iv.ok.dl; have := iv.ok.st; omega))
  have HR := Lib.hid h
  obtain ⟨_, _, _, a3, a4, a5, a6, a7⟩ := h.c
  have hl := h.lt
  have IV := Lib.hid iv
  rw [hd] at a3
  have hsl : s.files.length ≤ 1000000 := by omega
  have HKF : Hid (k < s.files.length) := Lib.hid (fb _ (look_some h1))
  have HDB : Hid (data.size ≤ 268435456) := Lib.hid (by have := iv.ok.rm; omega)
  have HSX := Lib.hid (fun W (k : Below w.heap.size w W) => rstep_any b v s W (h.below k) iv.ok.st iv.ok.fu)
  rw [find_some h1] at HFD
  simp only [if_neg h4] at HSX
  have hub := iv.ok.usedB
  have hrm := iv.ok.rm
  obtain ⟨Af, cf, Ad, cd, Ak, ck, Aw, cw, rfl⟩ := h.2.forms
  have HUU : Hid (∀ X : Ext w, Calls Try.prog 63 #[refV s ⟨.slice Af s.files.length cf, .slice Ad s.dir.length cd, .slice Ak s.kept.length ck, .slice Aw s.waits.length cw⟩] X.val fun e w' => e = .returned (.int .i64 (s.used : Nat)) ∧ ∃ y : Ext w, w' = y.val) := Lib.hid (fun X => ext_calls (rused_any _ s X.val (h.2.below X.bl) fb (by have := iv.ok.sum; omega)))
  obtain ⟨x0, x1, x2, _⟩ := h.c
  have e0 := ext_cell x0
  have e1 := ext_cell x1
  have e2 := ext_cell x2
  have e3 := ext_cell a3
  have e4 := ext_cell a4
  have e5 := ext_cell a5
  have e6 := ext_cell a6
  have e7 := ext_cell a7
  unfold refV rcells at HUU
  rw [hd] at HUU
  dsimp only at HUU HFD a5 e4 e5 e6 e7
  have ge1 : -9223372036854775808 ≤ (s.room : Int) - (s.used : Int) := by omega
  have ge2 : (s.room : Int) - (s.used : Int) < 9223372036854775808 := by omega
  clear hrm hub x0 x1 x2
  generalize s.used = U at *
  have hk0 : (0 : Int) ≤ (k : Int) := by omega
  clear h iv hf hd hres HS HR a4 a6 a7 h1 fb h4
  unfold ptrV at *
  go_enter Try.func54, Try.ntmps54
  go_wp2_with (fail)
  refine HFD.out.mono ?_
  rintro r w' ⟨rfl, rfl⟩
  go_wp2_with (fail)
  refine wp_region_ext (by kernel_rfl) (by kernel_rfl) ?_
  repeat (go_big_quiet_step (first | (go_at_call 63; refine HUU.out _)))
  refine wpQuiet_nil ?_
  rintro w2 ⟨⟨_, hb2⟩, rfl⟩
  have HB2 := Lib.hid hb2
  clear hb2 a3 a5 e0 e1 e2 e3 e4 e5 e6 e7
  go_wp2_with (fail)
  refine (HSX.out _ HB2.out).mono ?_
  rintro r w1 ⟨rfl, hr1, hk1⟩
  have R1 := Lib.hid hr1
  have K1 := Lib.hid ((Kw.ofBelow HB2.out).trans hk1)
  clear hr1 hk1 HSX HB2 HUU
  obtain ⟨v, hv⟩ : ∃ v : Rv, (⟨.slice Af s.files.length cf, .slice Ad s.dir.length cd, .slice Ak s.kept.length ck, .slice Aw s.waits.length cw⟩ : Rv) = v := ⟨_, rfl⟩
  rw [hv] at R1
  clear hv
  obtain ⟨Af, cf, hvf, _, _⟩ := own_slice R1.out.2.f
  obtain ⟨M, hM⟩ : ∃ M, s.files.length = M := ⟨_, rfl⟩
  have hM2 : s.tick.files.length = M := hM
  have HM := Lib.hid hM
  rw [hM2] at hvf
  have HF : Hid (∀ z, Below w1.heap.size w1 z → z.ownsRow 0 97 2 (.slice Af M cf) M (fcells s.files) ∧ z.cell? ⟨b, 4, none⟩ = some (.slice Af M cf) ∧ z.frozen? ⟨b, 4, none⟩ = false ∧ b < z.heap.size) := Lib.hid (fun z k => by
    have hz := R1.out.below k
    have h1 := hz.2.f
    have h2 := hz.c.2.2.2.2.1
    rw [hvf, hM2] at h1
    rw [hvf] at h2
    exact ⟨h1, h2, hz.fz 4, hz.lt⟩)
  have HMB : Hid (M ≤ 1000000) := Lib.hid (by omega)
  obtain ⟨c0, cz⟩ := (HF.out w1 (Below.refl _ _)).2
  obtain ⟨cz, cl⟩ := cz
  clear hvf hM hM2 cz
  have k0 := bl_alloc (Below.refl w1.heap.size w1) (Obj.cells #[] 97)
  have HE0 : Hid ((w1.alloc (Obj.cells #[] 97)).ownsRow w1.heap.size 97 2 (.slice (some ⟨w1.heap.size, 0, none⟩) 0 0) 0 []) := Lib.hid (em_own (new_heap _ _) (Nat.le_refl _))
  have HF0 := Lib.hid (HF.out _ k0).1
  have HK0 := Lib.hid k0
  have HN0 : Hid (0 + M ≤ 4000000) := Lib.hid (by have := HMB.out; omega)
  clear k0
  go_wp2_with (at_builtin; refine wpList_append_row _ rfl (.tmp 38) (.tmp 42) 48 97 2 24 _ und48 i97 rfl (by decide) (by decide) rfl w1.heap.size 0 0 (.slice (some ⟨w1.heap.size, 0, none⟩) 0 0) [] rfl HE0.out (.slice Af M cf) M (fcells s.files) rfl HF0.out (fcells_one _) HN0.out HK0.out.size ?_; intro v1 w4 hown2 hgr1; have hbB := bl_grow HK0.out HK0.out.size HE0.out hgr1; obtain ⟨A4, c4, rfl, _, hg4⟩ := own_slice hown2; obtain ⟨_, sc, sf, sl⟩ := HF.out w4 hbB)
  obtain ⟨g, rfl⟩ : ∃ g, A4 = some ⟨g, 0, none⟩ := hg4.resolve_left (by have := HKF.out; have := HM.out; omega)
  have hR2 : RefAt (w4.setCell ⟨b, 4, none⟩ (.slice (some ⟨g, 0, none⟩) M c4)) b { v with f := .slice (some ⟨g, 0, none⟩) M c4 } s.tick := by
    have hll : 0 + M = s.tick.files.length := by show 0 + M = s.files.length; rw [HM.out]; omega
    rw [hll, List.nil_append] at hown2
    have hz := (R1.out.below hbB).setF hown2
    rw [← hll, Nat.zero_add] at hz
    exact hz
  have hgB : w1.heap.size ≤ g := (own_blk hown2 (g := g) rfl).1
  have hK2 := K1.out.trans ((Kw.ofBelow (S := fun x => x = b) hbB).setCell (p := ⟨b, 4, none⟩) rfl (.slice (some ⟨g, 0, none⟩) M c4))
  have HGB : Hid (w.heap.size ≤ g) := Lib.hid (Nat.le_trans K1.out.size hgB)
  have HR2 := Lib.hid hR2
  have HK2 := Lib.hid hK2
  clear hown2 hgr1 hbB sc sf sl hR2 hK2 hgB c0 cl hg4 HF HF0 HK0 HE0
  generalize (w4.setCell ⟨b, 4, none⟩ (.slice (some ⟨g, 0, none⟩) M c4)) = W4 at *
  obtain ⟨gl, _, gc, gf, _⟩ := row_cells (g := g) (n := M) (c := c4) (xs := fcells s.files) (by have h1 := HR2.out.2.f; rw [show s.tick.files.length = M from HM.out] at h1; exact h1)
  have r0 := gc _ _ (fcells_at HKF.out).1
  have r1 := gc _ _ (fcells_at HKF.out).2
  have f0 := gf (k * 2)
  have f1 := gf (k * 2 + 1)
  have b4 := HR2.out.c.2.2.2.2.1
  have bl := HR2.out.lt
  have hk1 : (k : Int) < (M : Int) := by have := HKF.out; have := HM.out; omega
  obtain ⟨fk, hfk⟩ : ∃ fk, s.files[k]'HKF.out = fk := ⟨_, rfl⟩
  have HFK := Lib.hid hfk
  rw [hfk] at r0 r1
  obtain ⟨D, su⟩ := fk
  dsimp only at r0 r1 b4
  clear gc gf hfk
  have hdz : D.size + data.size ≤ 9223372036854775807 := by
    have h1 := IV.out.ok.fs k
    rw [file_at HKF.out, HFK.out] at h1
    have h1 : D.size ≤ 2000 * s.steps := h1
    have h2 := HDB.out
    omega
  go_region
  all_goals (
    have hR3 := HR2.out.file1 (g := g) (c := c4) (j := k * 2) (u := .string (D ++ data)) (by show _ = Value.slice _ s.files.length _; rw [HM.out]) (by show _ < (fcells s.files).length; rw [fcells_len]; have := HKF.out; omega) (fcells_data s.files k HKF.out _) (by rw [List.length_set]; rfl)
    have HR3 := Lib.hid hR3
    have HK3 := Lib.hid (HK2.out.setNew (p := ⟨g, k * 2, none⟩) HGB.out (.string (D ++ data)))
    clear hR3
    go_wp2_with (fail)
    go_ret
    refine RefR.mk rfl ⟨{ v with f := .slice (some ⟨g, 0, none⟩) M c4 }, ?_⟩ HK3.out.drew
    have h5 := HR3.out.below (Below.refl _ _).drew
    rw [HFK.out] at h5
    have h6 : s.tick.file k = ⟨D, su⟩ := (file_at HKF.out).trans HFK.out
    rw [h6]
    exact h5)
theorem rappend_any (b : Nat) (v : Rv) (s : DS) (n data : ByteArray) (fb : Fb s) (w : World) (h : RefAt w b v s) (iv : Inv s) (hs : s.steps < 1000000) (hf : s.files.length ≤ s.steps) :
    Calls Try.prog 54 #[ptrV b, .string n, .string data] w (RefR w b (s.append n data)) := by
  cases hd : s.down with
  | true => exact rappend_down b v s n data w h iv hs hf hd
  | false =>
    cases h1 : look s.dir n with
    | none => exact rappend_none b v s n data w h iv hs hf hd h1
    | some k =>
      by_cases hr : (s.room : Int) - s.used < data.size
      · exact rappend_room b v s n data w h iv hs hf hd h1 hr fb
      · by_cases h4 : s.fuse = 1
        · exact rappend_gone b v s n data w h iv hs hf hd h1 hr fb h4
        · exact rappend_do b v s n data w h iv hs hf hd h1 hr fb h4
end Go.Proofs.Ytjgiohlkpenipaa
