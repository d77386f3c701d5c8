/- Contract of Turn. Conditions: as each theorem states them. -/
import Derived.Test.YtjgiohlkpenipaaK2
import Derived.BigRegion
import Derived.Laws.IdiomStrings
import Derived.Laws.BitsAllLaws
namespace Go.Proofs.Ytjgiohlkpenipaa
open Go.RowKit Go.Maps
set_option linter.unusedVariables false
set_option linter.unusedSimpArgs false

theorem und105 : Try.prog.underlying 105 = some (.slice 5) := by kernel_rfl
theorem und5 : Try.prog.underlying 5 = some (.int .u8) := by kernel_rfl
theorem und9 : Try.prog.underlying 9 = some .string := by kernel_rfl
def oneB (y : Nat) : ByteArray := ⟨#[UInt8.ofNat y]⟩
/-- Bytes, one of them turned. -/
def turnB (D : ByteArray) (k x : Nat) : ByteArray := D.extract 0 k ++ oneB (bAt D k ^^^ x) ++ D.extract (k + 1) D.size
theorem conv_one (w : World) (g y : Nat) (hy : y < 256) (h : w.cell? ⟨g, 0, none⟩ = some (.int .u8 (y : Nat))) : (convert 105 9 (.slice (some ⟨g, 0, none⟩) 1 1)).run Try.prog w = .ok (.string (oneB y)) w := by
  refine run_convert_bytes_back (P := Try.prog) w 105 9 5 ⟨g, 0, none⟩ 1 [UInt8.ofNat y] und105 und5 und9 (fun j hj => ?_)
  have : j = 0 := by simpa using hj
  subst this
  rw [Addr.add_lit]
  simp only [List.getElem_cons_zero, Nat.zero_add]
  rw [h]
  have : (UInt8.ofNat y).toNat = y := by simp; omega
  rw [this]
set_option maxRecDepth 100000 in
set_option maxHeartbeats 8000000 in
theorem rturn_do (b : Nat) (v : Rv) (s : DS) (n : ByteArray) (at_ x : Nat) (w : World) (h : RefAt w b v s) (iv : Inv s) (hf : s.files.length ≤ 1000000) (fb : Fb s) (hd : s.down = false) {k : Nat} (h1 : look s.dir n = some k) (hat : at_ < (s.file k).data.size) (hx : x < 256) :
    Calls Try.prog 61 #[ptrV b, .string n, .int .i64 at_, .int .u8 x] w (RefR w b (0, s.setF k ⟨turnB (s.file k).data at_ x, (s.file k).sure⟩)) := by
  have hl := h.lt
  have HKF : Hid (k < s.files.length) := Lib.hid (fb _ (look_some h1))
  have hrd : s.read n = ((s.file k).data, 0) := by unfold DS.read; rw [if_neg (by simp [hd]), h1]
  have HRD := Lib.hid (rread_any v s n w h.2 fb (by have := iv.ok.dl; have := iv.ok.st; omega))
  rw [hrd] at HRD
  have HFS := Lib.hid (find_some h1)
  have HDL : Hid (s.dir.length ≤ 1000001) := Lib.hid (by have := iv.ok.dl; have := iv.ok.st; omega)
  have hsz := iv.ok.fs k
  have hst := iv.ok.st
  rw [file_at HKF.out] at hat hsz HRD
  obtain ⟨fk, hfk⟩ : ∃ fk, s.files[k]'HKF.out = fk := ⟨_, rfl⟩
  have HFK := Lib.hid hfk
  rw [hfk] at hat hsz HRD
  obtain ⟨D, su⟩ := fk
  dsimp only at hat hsz HRD
  have HR := Lib.hid h
  obtain ⟨a0, a1, a2, a3, a4, a5, a6, a7⟩ := h.c
  obtain ⟨Af, cf, Ad, cd, Ak, ck, Aw, cw, rfl⟩ := h.2.forms
  unfold refV rcells at HRD
  rw [hd] at HRD a3
  dsimp only at HRD a4 a5 a6 a7
  have ha0 : (0 : Int) ≤ (at_ : Int) := by omega
  have ha1 : (at_ : Int) < (D.size : Int) := by omega
  have hk0 : (0 : Int) ≤ (k : Int) := by omega
  clear h iv fb hfk hrd h1
  unfold ptrV at *
  go_enter Try.func61, Try.ntmps61
  go_wp2_with (fail)
  refine HRD.out.mono ?_
  rintro r w1 ⟨rfl, hb1⟩
  have R1 := Lib.hid (HR.out.below hb1)
  have K1 : Hid (Kw (fun x => x = b) w w1) := Lib.hid (Kw.ofBelow hb1)
  have HB1 := Lib.hid hb1
  clear hb1
  obtain ⟨M, hM⟩ : ∃ M, s.files.length = M := ⟨_, rfl⟩
  have HM := Lib.hid hM
  have HF : Hid (∀ z, Below w1.heap.size w1 z → z.ownsRow 0 97 2 (.slice Af M cf) M (fcells s.files) ∧ z.cell? ⟨b, 4, none⟩ = some (.slice Af M cf) ∧ z.cell? ⟨b, 5, none⟩ = some (.slice Ad s.dir.length cd) ∧ z.frozen? ⟨b, 4, none⟩ = false ∧ b < z.heap.size) := Lib.hid (fun z k => by
    have hz := R1.out.below k
    have h1 := hz.2.f
    have h2 := hz.c.2.2.2.2
    rw [hM] at h1 h2
    exact ⟨h1, h2.1, h2.2.1, hz.fz 4, hz.lt⟩)
  obtain ⟨_, c0, c5, _, cl⟩ := HF.out w1 (Below.refl _ _)
  have hmi : (M : Int) ≤ 1000000 := by omega
  clear hM a0 a1 a2 a3 a4 a5 a6 a7
  have k0 := bl_alloc (Below.refl w1.heap.size w1) (Obj.cells #[] 97)
  have HE0 : Hid ((w1.alloc (Obj.cells #[] 97)).ownsRow w1.heap.size 97 2 (.slice (some ⟨w1.heap.size, 0, none⟩) 0 0) 0 []) := Lib.hid (em_own (new_heap _ _) (Nat.le_refl _))
  have HF0 := Lib.hid (HF.out _ k0).1
  have HK0 := Lib.hid k0
  have HN0 : Hid (0 + M ≤ 4000000) := Lib.hid (by omega)
  clear k0
  go_wp2_with (at_builtin; refine wpList_append_row _ rfl (.tmp 32) (.tmp 36) 48 97 2 24 _ und48 i97 rfl (by decide) (by decide) rfl w1.heap.size 0 0 (.slice (some ⟨w1.heap.size, 0, none⟩) 0 0) [] rfl HE0.out (.slice Af M cf) M (fcells s.files) rfl HF0.out (fcells_one _) HN0.out HK0.out.size ?_; intro v1 w4 hown2 hgr1; have hbB := bl_grow HK0.out HK0.out.size HE0.out hgr1; obtain ⟨A4, c4, rfl, _, hg4⟩ := own_slice hown2; obtain ⟨_, sc, sc5, sf, sl⟩ := HF.out w4 hbB)
  obtain ⟨g, rfl⟩ : ∃ g, A4 = some ⟨g, 0, none⟩ := hg4.resolve_left (by have := HKF.out; have := HM.out; omega)
  have hR2 : RefAt (w4.setCell ⟨b, 4, none⟩ (.slice (some ⟨g, 0, none⟩) M c4)) b ⟨.slice (some ⟨g, 0, none⟩) M c4, .slice Ad s.dir.length cd, .slice Ak s.kept.length ck, .slice Aw s.waits.length cw⟩ s := by
    have hll : 0 + M = s.files.length := by rw [HM.out]; omega
    rw [hll, List.nil_append] at hown2
    have hz := (R1.out.below hbB).setF hown2
    rw [← hll, Nat.zero_add] at hz
    exact hz
  have hgB : w1.heap.size ≤ g := (own_blk hown2 (g := g) rfl).1
  have hK2 := K1.out.trans ((Kw.ofBelow (S := fun x => x = b) hbB).setCell (p := ⟨b, 4, none⟩) rfl (.slice (some ⟨g, 0, none⟩) M c4))
  have HGB : Hid (w.heap.size ≤ g) := Lib.hid (Nat.le_trans K1.out.size hgB)
  have HR2 := Lib.hid hR2
  have HK2 := Lib.hid hK2
  have HFD4 := Lib.hid (find_any (.slice Ad s.dir.length cd) s.dir n _ hR2.2.d HDL.out)
  rw [HFS.out] at HFD4
  clear hown2 hgr1 hbB sc sc5 sf sl hR2 hK2 hgB c0 c5 cl hg4 HF HF0 HK0 HE0
  generalize (w4.setCell ⟨b, 4, none⟩ (.slice (some ⟨g, 0, none⟩) M c4)) = W4 at *
  refine HFD4.out.mono ?_
  rintro r w' ⟨rfl, rfl⟩
  obtain ⟨gl, _, gc, gf, _⟩ := row_cells (g := g) (n := M) (c := c4) (xs := fcells s.files) (by have h1 := HR2.out.2.f; rw [HM.out] at h1; exact h1)
  have r0 := gc _ _ (fcells_at HKF.out).1
  have r1 := gc _ _ (fcells_at HKF.out).2
  have f0 := gf (k * 2)
  have f1 := gf (k * 2 + 1)
  have b4 := HR2.out.c.2.2.2.2.1
  have bl := HR2.out.lt
  have hk1 : (k : Int) < (M : Int) := by have := HKF.out; have := HM.out; omega
  rw [HFK.out] at r0 r1
  dsimp only at r0 r1 b4
  obtain ⟨y, hy⟩ : ∃ y, D[at_].toNat ^^^ x = y := ⟨_, rfl⟩
  have hy2 : y < 256 := by
    rw [← hy]
    exact Nat.xor_lt_two_pow (n := 8) D[at_].toNat_lt hx
  have hxr : bits .xor .u8 (D[at_].toNat : Int) (x : Int) = (y : Int) := by
    rw [← hy]
    exact u8_xor_nat _ _ D[at_].toNat_lt hx
  have kc := conv_one ((W4.alloc (Obj.cells #[.int .u8 (y : Nat)] 5)).drew) W4.heap.size y hy2 (cell_of (new_heap W4 _) 0)
  have hle : at_ ≤ D.size := by omega
  have hle1 : at_ + 1 ≤ D.size := by omega
  have hle2 : (at_ : Int) + 1 ≤ (D.size : Int) := by omega
  have hDs : D.size ≤ 2000000000 := by omega
  have hs1 : (D.extract 0 at_).size = at_ := by rw [ByteArray.size_extract]; omega
  have hs2 : (D.extract (at_ + 1) D.size).size = D.size - (at_ + 1) := by rw [ByteArray.size_extract]; omega
  have hs3 : (oneB y).size = 1 := rfl
  clear gc gf HRD
  have HY := Lib.hid hy
  clear hy
  go_wp2_with (fail)
  go_region
  have hR3 := HR2.out.file1 (g := g) (c := c4) (j := k * 2) (u := .string (D.extract 0 at_ ++ oneB y ++ D.extract (at_ + 1) D.size)) (by show _ = Value.slice _ s.files.length _; rw [HM.out]) (by rw [fcells_len]; have := HKF.out; omega) (fcells_data s.files k HKF.out _) (by rw [List.length_set])
  have HR3 := Lib.hid (hR3.below (w' := ((W4.setCell ⟨g, k * 2, none⟩ (.string (D.extract 0 at_ ++ oneB y ++ D.extract (at_ + 1) D.size))).alloc (Obj.cells #[.int .u8 (y : Nat)] 5)).drew) (bl_alloc (Below.refl _ _) _).drew)
  have HK3 := Lib.hid (((HK2.out.setNew (p := ⟨g, k * 2, none⟩) HGB.out (.string (D.extract 0 at_ ++ oneB y ++ D.extract (at_ + 1) D.size))).alloc (Obj.cells #[.int .u8 (y : Nat)] 5)).drew)
  clear hR3
  go_wp2_with (fail)
  go_ret
  refine RefR.mk rfl ⟨⟨.slice (some ⟨g, 0, none⟩) M c4, .slice Ad s.dir.length cd, .slice Ak s.kept.length ck, .slice Aw s.waits.length cw⟩, ?_⟩ HK3.out
  have h6 : s.file k = ⟨D, su⟩ := (file_at HKF.out).trans HFK.out
  have h5 := HR3.out
  rw [HFK.out] at h5
  rw [h6]
  have hb : turnB D at_ x = D.extract 0 at_ ++ oneB y ++ D.extract (at_ + 1) D.size := by
    unfold turnB
    have hbA : bAt D at_ = D[at_].toNat := by
      unfold bAt
      rw [Array.getD_eq_getD_getElem?, Array.getElem?_eq_getElem (by simpa using hat)]
      rfl
    rw [hbA, HY.out]
  show RefAt _ b _ { s with files := s.files.set k ⟨turnB D at_ x, su⟩ }
  rw [hb]
  exact h5
/-- Damage at a byte. -/
def DS.turn (s : DS) (n : ByteArray) (at_ : Int) (x : Nat) : Int × DS :=
  if (s.read n).2 ≠ 0 then ((s.read n).2, s) else if at_ < 0 ∨ ((s.read n).1.size : Int) ≤ at_ then (2, s) else (0, s.setF (s.at_ n) ⟨turnB (s.read n).1 at_.toNat x, (s.file (s.at_ n)).sure⟩)
set_option maxRecDepth 100000 in
set_option maxHeartbeats 8000000 in
theorem rturn_no (b : Nat) (v : Rv) (s : DS) (n : ByteArray) (at_ : Int) (x : Nat) (w : World) (h : RefAt w b v s) (iv : Inv s) (fb : Fb s) (he : (s.read n).2 ≠ 0) :
    Calls Try.prog 61 #[ptrV b, .string n, .int .i64 at_, .int .u8 x] w (RefR w b ((s.read n).2, s)) := by
  have hl := h.lt
  have HRD := Lib.hid (rread_any v s n w h.2 fb (by have := iv.ok.dl; have := iv.ok.st; omega))
  have HR := Lib.hid h
  obtain ⟨a0, a1, a2, a3, a4, a5, a6, a7⟩ := h.c
  obtain ⟨Af, cf, Ad, cd, Ak, ck, Aw, cw, rfl⟩ := h.2.forms
  unfold refV rcells at HRD
  dsimp only at HRD a4 a5 a6 a7
  obtain ⟨e, hee⟩ : ∃ e, (s.read n).2 = e := ⟨_, rfl⟩
  obtain ⟨D, hD⟩ : ∃ e, (s.read n).1 = e := ⟨_, rfl⟩
  rw [hee] at HRD he ⊢
  rw [hD] at HRD
  clear h iv fb hee hD
  unfold ptrV at *
  go_enter Try.func61, Try.ntmps61
  go_wp2_with (fail)
  refine HRD.out.mono ?_
  rintro r w1 ⟨rfl, hb1⟩
  go_wp2_with (fail)
  go_ret
  exact RefR.mk rfl ⟨_, HR.out.below hb1⟩ (Kw.ofBelow hb1)
set_option maxRecDepth 100000 in
set_option maxHeartbeats 8000000 in
theorem rturn_off (b : Nat) (v : Rv) (s : DS) (n : ByteArray) (at_ : Int) (x : Nat) (w : World) (h : RefAt w b v s) (iv : Inv s) (fb : Fb s) (he : (s.read n).2 = 0) (ha : at_ < 0 ∨ ((s.read n).1.size : Int) ≤ at_) :
    Calls Try.prog 61 #[ptrV b, .string n, .int .i64 at_, .int .u8 x] w (RefR w b (2, s)) := by
  have hl := h.lt
  have HRD := Lib.hid (rread_any v s n w h.2 fb (by have := iv.ok.dl; have := iv.ok.st; omega))
  rw [he] at HRD
  have HR := Lib.hid h
  obtain ⟨a0, a1, a2, a3, a4, a5, a6, a7⟩ := h.c
  obtain ⟨Af, cf, Ad, cd, Ak, ck, Aw, cw, rfl⟩ := h.2.forms
  unfold refV rcells at HRD
  dsimp only at HRD a4 a5 a6 a7
  obtain ⟨D, hD⟩ : ∃ e, (s.read n).1 = e := ⟨_, rfl⟩
  rw [hD] at HRD ha
  clear h iv fb he hD
  unfold ptrV at *
  by_cases h0 : at_ < 0
  · clear ha
    go_enter Try.func61, Try.ntmps61
    go_wp2_with (fail)
    refine HRD.out.mono ?_
    rintro r w1 ⟨rfl, hb1⟩
    go_wp2_with (fail)
    go_ret
    exact RefR.mk rfl ⟨_, HR.out.below hb1⟩ (Kw.ofBelow hb1)
  · have h2 : (D.size : Int) ≤ at_ := by omega
    have h3 : (0 : Int) ≤ at_ := by omega
    clear ha
    go_enter Try.func61, Try.ntmps61
    go_wp2_with (fail)
    refine HRD.out.mono ?_
    rintro r w1 ⟨rfl, hb1⟩
    go_wp2_with (fail)
    go_ret
    exact RefR.mk rfl ⟨_, HR.out.below hb1⟩ (Kw.ofBelow hb1)
theorem read_ok {s : DS} {n : ByteArray} (h : (s.read n).2 = 0) : s.down = false ∧ ∃ k, look s.dir n = some k ∧ (s.read n).1 = (s.file k).data ∧ s.at_ n = k := by
  unfold DS.read at h ⊢
  cases hd : s.down with
  | true => rw [hd, if_pos rfl] at h; exact absurd h (by decide)
  | false =>
    rw [hd, if_neg (by decide)] at h
    cases hk : look s.dir n with
    | none => rw [hk] at h; exact absurd h (by simp)
    | some k => exact ⟨rfl, k, rfl, rfl, by unfold DS.at_; rw [hk]; rfl⟩
theorem rturn_any (b : Nat) (v : Rv) (s : DS) (n : ByteArray) (at_ : Int) (x : Nat) (w : World) (h : RefAt w b v s) (iv : Inv s) (hf : s.files.length ≤ s.steps) (fb : Fb s) (hx : x < 256) :
    Calls Try.prog 61 #[ptrV b, .string n, .int .i64 at_, .int .u8 x] w (RefR w b (s.turn n at_ x)) := by
  unfold DS.turn
  by_cases he : (s.read n).2 = 0
  · rw [if_neg (by simpa using he)]
    by_cases ha : at_ < 0 ∨ ((s.read n).1.size : Int) ≤ at_
    · rw [if_pos ha]
      exact rturn_off b v s n at_ x w h iv fb he ha
    · rw [if_neg ha]
      obtain ⟨hd, k, hk, hD, hat⟩ := read_ok he
      rw [hD] at ha ⊢
      rw [hat]
      have h1 := rturn_do b v s n at_.toNat x w h iv (by have := iv.ok.st; omega) fb hd hk (by omega) hx
      rw [Int.toNat_of_nonneg (by omega)] at h1
      exact h1
  · rw [if_pos he]
    exact rturn_no b v s n at_ x w h iv fb he
end Go.Proofs.Ytjgiohlkpenipaa
namespace Go.Proofs.Ytjgiohlkpenipaa
open Go.RowKit Go.Maps
set_option linter.unusedVariables false
set_option linter.unusedSimpArgs false

theorem OpR.stay {w : World} {L : Lay} {s : DS} {e : Int} {r : Ending} (h : DAt w L s) (hr : r = .returned (.int .i64 e)) : OpR w L s (e, s) r w :=
  ⟨hr, L, rfl, h, Kw.refl _ _, fun b hb => .inl hb⟩
set_option maxRecDepth 100000 in
set_option maxHeartbeats 8000000 in
theorem turn_no (L : Lay) (s : DS) (n : ByteArray) (at_ : Int) (x : Nat) (w : World) (h : DAt w L s) (hn : okN n) (he : (s.read n).2 ≠ 0) :
    Calls Try.prog 60 #[dP L, .string n, .int .i64 at_, .int .u8 x] w (OpR w L s ((s.read n).2, s)) := by
  have HRD := Lib.hid (read_any L s n w h hn)
  have H := Lib.hid h
  obtain ⟨e, hee⟩ : ∃ e, (s.read n).2 = e := ⟨_, rfl⟩
  obtain ⟨D, hD⟩ : ∃ e, (s.read n).1 = e := ⟨_, rfl⟩
  rw [hee] at HRD he ⊢
  rw [hD] at HRD
  clear h hee hD
  unfold dP at *
  go_enter Try.func60, Try.ntmps60
  go_wp2_with (fail)
  refine HRD.out.mono ?_
  rintro r w1 ⟨rfl, rfl⟩
  go_wp2_with (fail)
  go_ret
  exact OpR.stay H.out rfl
set_option maxRecDepth 100000 in
set_option maxHeartbeats 8000000 in
theorem turn_off (L : Lay) (s : DS) (n : ByteArray) (at_ : Int) (x : Nat) (w : World) (h : DAt w L s) (hn : okN n) (he : (s.read n).2 = 0) (ha : at_ < 0 ∨ ((s.read n).1.size : Int) ≤ at_) :
    Calls Try.prog 60 #[dP L, .string n, .int .i64 at_, .int .u8 x] w (OpR w L s (2, s)) := by
  have HRD := Lib.hid (read_any L s n w h hn)
  have H := Lib.hid h
  rw [he] at HRD
  obtain ⟨D, hD⟩ : ∃ e, (s.read n).1 = e := ⟨_, rfl⟩
  rw [hD] at HRD ha
  clear h he hD
  unfold dP at *
  by_cases h0 : at_ < 0
  · clear ha
    go_enter Try.func60, Try.ntmps60
    go_wp2_with (fail)
    refine HRD.out.mono ?_
    rintro r w1 ⟨rfl, rfl⟩
    go_wp2_with (fail)
    go_ret
    exact OpR.stay H.out rfl
  · have h2 : (D.size : Int) ≤ at_ := by omega
    have h3 : (0 : Int) ≤ at_ := by omega
    clear ha
    go_enter Try.func60, Try.ntmps60
    go_wp2_with (fail)
    refine HRD.out.mono ?_
    rintro r w1 ⟨rfl, rfl⟩
    go_wp2_with (fail)
    go_ret
    exact OpR.stay H.out rfl
set_option maxRecDepth 100000 in
set_option maxHeartbeats 8000000 in
theorem turn_do (L : Lay) (s : DS) (n : ByteArray) (at_ x : Nat) (w : World) (h : DAt w L s) (ok : OkS s) (hn : okN n) (hd : s.down = false) {k : Nat} (h1 : look s.dir n = some k) (hat : at_ < (s.file k).data.size) (hx : x < 256) :
    Calls Try.prog 60 #[dP L, .string n, .int .i64 at_, .int .u8 x] w (OpR w L s (0, s.setF k ⟨turnB (s.file k).data at_ x, (s.file k).sure⟩)) := by
  have hl := h.lt
  have hrd : s.read n = ((s.file k).data, 0) := by unfold DS.read; rw [if_neg (by simp [hd]), h1]
  have HRD := Lib.hid (read_any L s n w h hn)
  rw [hrd] at HRD
  have hsz := ok.fs k
  have hst := ok.st
  have hk : s.has k := .inl ⟨n, look_some h1⟩
  have hfa := (h.file k hk).1
  have HH := Lib.hid hk
  have HFA := Lib.hid hfa
  obtain ⟨fk, hfk⟩ : ∃ fk, s.file k = fk := ⟨_, rfl⟩
  rw [hfk] at hat hsz HRD hfa HFA ⊢
  obtain ⟨D, su⟩ := fk
  dsimp only at hat hsz HRD ⊢
  have f0 := hfa.cells.1
  have f1 := hfa.cells.2
  have fl := hfa.lt
  dsimp only at f0 f1
  have a4 := h.c.2.2.2.2.1
  obtain ⟨y, hy⟩ : ∃ y, D[at_].toNat ^^^ x = y := ⟨_, rfl⟩
  have hy2 : y < 256 := by
    rw [← hy]
    exact Nat.xor_lt_two_pow (n := 8) D[at_].toNat_lt hx
  have hxr : bits .xor .u8 (D[at_].toNat : Int) (x : Int) = (y : Int) := by
    rw [← hy]
    exact u8_xor_nat _ _ D[at_].toNat_lt hx
  have kc := conv_one ((w.alloc (Obj.cells #[.int .u8 (y : Nat)] 5)).drew) w.heap.size y hy2 (cell_of (new_heap w _) 0)
  have hlk : ∀ W, Below w.heap.size w W → (Instr.lookup 57 (.map (some L.md)) (.string n) false).run Try.prog W = .ok (.pointer (some ⟨L.bk k, 0, none⟩)) W := fun W kk => by
    obtain ⟨D, hD⟩ := (h.below kk).dirm
    rw [hD.look hn, h1]
    rfl
  have l1 := hlk w.drew (Below.refl _ _).drew
  have l2 := hlk (w.alloc (Obj.cells #[.int .u8 (y : Nat)] 5)).drew (bl_alloc (Below.refl _ _) _).drew
  have hb : turnB D at_ x = D.extract 0 at_ ++ oneB y ++ D.extract (at_ + 1) D.size := by
    unfold turnB
    have hbA : bAt D at_ = D[at_].toNat := by
      unfold bAt
      rw [Array.getD_eq_getD_getElem?, Array.getElem?_eq_getElem (by simpa using hat)]
      rfl
    rw [hbA, hy]
  have HTB := Lib.hid hb
  clear hb
  have ha0 : (0 : Int) ≤ (at_ : Int) := by omega
  have ha1 : (at_ : Int) < (D.size : Int) := by omega
  have hle : at_ ≤ D.size := by omega
  have hle1 : at_ + 1 ≤ D.size := by omega
  have hle2 : (at_ : Int) + 1 ≤ (D.size : Int) := by omega
  have hDs : D.size ≤ 2000000000 := by omega
  have hs1 : (D.extract 0 at_).size = at_ := by rw [ByteArray.size_extract]; omega
  have hs2 : (D.extract (at_ + 1) D.size).size = D.size - (at_ + 1) := by rw [ByteArray.size_extract]; omega
  have hs3 : (oneB y).size = 1 := rfl
  have H := Lib.hid h
  have HY := Lib.hid hy
  have ff0 : w.frozen? ⟨L.bk k, 0, none⟩ = false := froz_of hfa 0
  have HAT := Lib.hid hat
  clear h ok hn hfa hrd hfk hy hlk hk h1
  unfold dP at *
  go_enter Try.func60, Try.ntmps60
  go_wp2_with (fail)
  refine HRD.out.mono ?_
  rintro r w1 ⟨rfl, rfl⟩
  go_wp2_with (fail)
  go_region
  have HFN : Hid (FileAt ((w.setCell ⟨L.bk k, 0, none⟩ (.string (D.extract 0 at_ ++ oneB y ++ D.extract (at_ + 1) D.size))).alloc (Obj.cells #[.int .u8 (y : Nat)] 5)).drew (L.bk k) ⟨D.extract 0 at_ ++ oneB y ++ D.extract (at_ + 1) D.size, su⟩) := Lib.hid (old_heap (set_heap (i := 0) HFA.out))
  have hkw : Kw (fun b => b = L.bk k) w ((w.setCell ⟨L.bk k, 0, none⟩ (.string (D.extract 0 at_ ++ oneB y ++ D.extract (at_ + 1) D.size))).alloc (Obj.cells #[.int .u8 (y : Nat)] 5)).drew := (((Kw.refl (fun b => b = L.bk k) w).setCell (p := ⟨L.bk k, 0, none⟩) rfl _).alloc _).drew
  have HKW := Lib.hid hkw
  clear hkw
  go_wp2_with (fail)
  go_ret
  rw [HTB.out]
  exact ⟨rfl, L, rfl, H.out.setFile HH.out HFN.out HKW.out, HKW.out.mono (fun b _ e => .inr (.inr (.inr (.inl ⟨k, HH.out, e⟩)))), fun b hb => .inl hb⟩
theorem turn_any (L : Lay) (s : DS) (n : ByteArray) (at_ : Int) (x : Nat) (w : World) (h : DAt w L s) (ok : OkS s) (hn : okN n) (hx : x < 256) :
    Calls Try.prog 60 #[dP L, .string n, .int .i64 at_, .int .u8 x] w (OpR w L s (s.turn n at_ x)) := by
  unfold DS.turn
  by_cases he : (s.read n).2 = 0
  · rw [if_neg (by simpa using he)]
    by_cases ha : at_ < 0 ∨ ((s.read n).1.size : Int) ≤ at_
    · rw [if_pos ha]
      exact turn_off L s n at_ x w h hn he ha
    · rw [if_neg ha]
      obtain ⟨hd, k, hk, hD, hat⟩ := read_ok he
      rw [hD] at ha ⊢
      rw [hat]
      have h1 := turn_do L s n at_.toNat x w h ok hn hd hk (by omega) hx
      rw [Int.toNat_of_nonneg (by omega)] at h1
      exact h1
  · rw [if_pos he]
    exact turn_no L s n at_ x w h hn he
theorem turn_dk {w : World} {d : Nat} {s : DS} {B : Nat} (h : Dk w d s B) (iv : Inv s) (hB : B ≤ w.heap.size) {n : ByteArray} (hn : okN n) (at_ : Int) {x : Nat} (hx : x < 256) : Calls Try.prog 60 #[ptrV d, .string n, .int .i64 at_, .int .u8 x] w fun r w' => r = .returned (.int .i64 (s.turn n at_ x).1) ∧ Dk w' d (s.turn n at_ x).2 B ∧ Below B w w' := by
  obtain ⟨L, rfl, hd, hf⟩ := h
  exact (turn_any L s n at_ x w hd iv.ok hn hx).mono (fun r w' h => h.dk hB hf)
end Go.Proofs.Ytjgiohlkpenipaa
