/- The walk of DiskPlays. Conditions: as each theorem states them. -/
import Derived.Test.YtjgiohlkpenipaaK9
namespace Go.Proofs.Ytjgiohlkpenipaa
open Go.RowKit Go.Maps
set_option linter.unusedVariables false
set_option linter.unusedSimpArgs false

/-- The disk and the reference's, in one state, all at B or above. -/
structure Bo (w : World) (d : Nat) (s : DS) (b B : Nat) : Prop where
  ex : ∃ L v, L.d = d ∧ DAt w L s ∧ RefAt w b v s ∧ ∀ x, Foot L s x → B ≤ x
  bb : B ≤ b
  j : Jn s
def bBehind : ByteArray := ⟨#[98, 101, 104, 105, 110, 100]⟩
theorem okN_behind : okN bBehind := by unfold okN; decide +kernel
theorem Bo.below {w w' : World} {d b B : Nat} {s : DS} (h : Bo w d s b B) (k : Below w.heap.size w w') : Bo w' d s b B := by
  obtain ⟨⟨L, v, e, hd, hr, hf⟩, hb, j⟩ := h
  exact ⟨⟨L, v, e, hd.below k, hr.below k, hf⟩, hb, j⟩
theorem play_bo {w : World} {d b B : Nat} {s : DS} (h : Bo w d s b B) (hs : s.steps < 1000000) (hB : B ≤ w.heap.size) {o : Oq} {w0 : World} (hq : okQ w0 o) (hw0 : w0.heap.size = B) (hbl : Below B w0 w) (hsm : o.dt.size ≤ 2000 ∧ o.cs.length ≤ 300) :
    Calls Try.prog 25 #[ptrV d, ptrV b, opV o] w fun r w' => r = .returned (.bool true) ∧ Bo w' d (s.play o) b B ∧ Below B w w' := by
  obtain ⟨⟨L, v, rfl, hd, hr, hf⟩, hb, j⟩ := h
  obtain ⟨q1, q2, q3, q4, q5, q6⟩ := hq
  subst hw0
  refine (play_any L s o b v w hd hr j hs q1 q2 hsm.1 q3 (q4.below hbl) hsm.2 (fun hp a ha => ?_)).mono ?_
  · have := q6 hp a ha
    exact ⟨fun hx => by have := hf _ hx; omega, by omega⟩
  · rintro r w' ⟨hre, L', v', e, d', r', k, f⟩
    refine ⟨hre, ⟨⟨L', v', e, d', r', fun x hx => ?_⟩, hb, j.play hs o hsm.1 q3.2⟩, k.below hB (fun x hx => ?_)⟩
    · rcases f x hx with h | h
      · exact hf x h
      · omega
    · rcases hx with h | h
      · exact hf x h
      · omega
theorem tells_bo {w : World} {d b B : Nat} {s : DS} (h : Bo w d s b B) : ∃ v, RefAt w b v s ∧ Calls Try.prog 26 #[ptrV d, refV s v] w fun e w' => e = .returned (.bool true) ∧ Below w.heap.size w w' := by
  obtain ⟨⟨L, v, rfl, hd, hr, hf⟩, hb, j⟩ := h
  exact ⟨v, hr, tells_any L s b v w hd hr.2 j.iv⟩
/-- A copy is made, and is used; the disk stays. -/
theorem copy_bo {w : World} {d b B : Nat} {s : DS} (h : Bo w d s b B) : Calls Try.prog 24 #[ptrV d] w fun r w' => ∃ c, r = .returned (ptrV c) ∧ Bo w' d s b B ∧ Dk w' c s w.heap.size ∧ Below w.heap.size w w' := by
  have h0 := h
  obtain ⟨⟨L, v, rfl, hd, hr, hf⟩, hb, j⟩ := h
  refine (copy_any L s w hd j.iv).mono ?_
  rintro r w' ⟨c, rfl, h1, h2⟩
  exact ⟨c, rfl, h0.below h2, h1, h2⟩
/-- The disk was copied to c, from block C on; what is done to the old one. -/
structure Cb (w : World) (d c : Nat) (t s : DS) (b B : Nat) (C : Nat) : Prop where
  ex : ∃ L M v, L.d = d ∧ M.d = c ∧ DAt w L t ∧ DAt w M s ∧ RefAt w b v s ∧ (∀ x, Foot L t x → B ≤ x) ∧ (∀ x, Foot M s x → B ≤ x) ∧ ∀ x, Foot M s x → ¬ Foot L t x
  bb : B ≤ b
  j : Jn s
theorem Cb.start {w w' : World} {d b B c : Nat} {s : DS} (h : Bo w d s b B) (hB : B ≤ w.heap.size) (k : Below w.heap.size w w') (h2 : Dk w' c s w.heap.size) : Cb w' d c s s b B w.heap.size := by
  obtain ⟨⟨L, v, e, hd, hr, hf⟩, hb, j⟩ := h
  obtain ⟨M, e2, hm, hfm⟩ := h2
  exact ⟨⟨L, M, v, e, e2, hd.below k, hm, hr.below k, hf, fun x hx => by have := hfm x hx; omega, fun x hx hy => by have := hfm x hx; have := hd.foot_lt hy; omega⟩, hb, j⟩
theorem Cb.op {w w' : World} {d c b B C : Nat} {t s : DS} {L M : Lay} {v : Rv} {res : Int × DS} {r : Ending} (eL : L.d = d) (eM : M.d = c) (hd : DAt w L t) (hm : DAt w M s) (hr : RefAt w b v s) (hf : ∀ x, Foot L t x → B ≤ x) (hfm : ∀ x, Foot M s x → B ≤ x) (hx : ∀ x, Foot M s x → ¬ Foot L t x) (hB : B ≤ w.heap.size) (hb : B ≤ b) (j : Jn s) (h : OpR w L t res r w') :
    r = .returned (.int .i64 res.1) ∧ Cb w' d c res.2 s b B C ∧ Below B w w' := by
  obtain ⟨h1, L', h2, h3, h4, h5⟩ := h
  refine ⟨h1, ⟨⟨L', M, v, h2.trans eL, eM, h3, hm.kw h4 hx, hr.off hd h4, fun x hy => ?_, hfm, fun x hy hz => ?_⟩, hb, j⟩, h4.below hB hf⟩
  · rcases h5 x hy with h | h
    · exact hf x h
    · omega
  · rcases h5 x hz with h | h
    · exact hx x hy h
    · have := hm.foot_lt hy
      omega
theorem Cb.end_ {w : World} {d c b B C : Nat} {t s : DS} (h : Cb w d c t s b B C) : Bo w c s b B := by
  obtain ⟨⟨L, M, v, _, e, _, hm, hr, _, hf, _⟩, hb, j⟩ := h
  exact ⟨⟨M, v, e, hm, hr, hf⟩, hb, j⟩
theorem create_cb {w : World} {d c b B C : Nat} {s : DS} (h : Cb w d c s s b B C) (hs : s.steps < 1000000) (hB : B ≤ w.heap.size) : Calls Try.prog 11 #[ptrV d, .string bBehind] w fun r w' => r = .returned (.int .i64 (s.create bBehind).1) ∧ Cb w' d c (s.create bBehind).2 s b B C ∧ Below B w w' := by
  obtain ⟨⟨L, M, v, rfl, eM, hd, hm, hr, hf, hfm, hx⟩, hb, j⟩ := h
  exact (create_any L s bBehind w hd j.iv.ok hs okN_behind).mono (fun r w' h => Cb.op rfl eM hd hm hr hf hfm hx hB hb j h)
theorem dsync_cb {w : World} {d c b B C : Nat} {t s : DS} (h : Cb w d c t s b B C) (jt : Jn t) (hs : t.steps < 1000000) (hB : B ≤ w.heap.size) : Calls Try.prog 14 #[ptrV d] w fun r w' => r = .returned (.int .i64 t.dsync.1) ∧ Cb w' d c t.dsync.2 s b B C ∧ Below B w w' := by
  obtain ⟨⟨L, M, v, rfl, eM, hd, hm, hr, hf, hfm, hx⟩, hb, j⟩ := h
  exact (syncdir_any L t w hd jt.iv.ok hs).mono (fun r w' h => Cb.op rfl eM hd hm hr hf hfm hx hB hb j h)
theorem new_ref {w : World} {b room : Nat} (h : w.heap[b]? = some (Obj.cells #[.int .i64 room, .int .i64 0, .int .i64 0, .bool false, .slice none 0 0, .slice none 0 0, .slice none 0 0, .slice none 0 0] 52)) : RefAt w b ⟨.slice none 0 0, .slice none 0 0, .slice none 0 0, .slice none 0 0⟩ (newS room) :=
  ⟨h, ⟨rfl, .inl ⟨rfl, rfl⟩⟩, ⟨rfl, .inl ⟨rfl, rfl⟩⟩, ⟨rfl, .inl ⟨rfl, rfl⟩⟩, ⟨rfl, .inl ⟨rfl, rfl⟩⟩⟩
set_option maxRecDepth 100000 in
set_option maxHeartbeats 8000000 in
theorem plays_bad (room : Int) (A1 : Option Addr) (c1 : Nat) (l1 : List Oq) (w : World) (h : room < 0 ∨ 268435456 < room) :
    Calls Try.prog 8 #[.int .i64 room, .slice A1 l1.length c1] w fun e w' => e = .returned (.bool true) ∧ Below w.heap.size w w' := by
  have HN := Lib.hid (new_bad room w h)
  by_cases h0 : room < 0
  · clear h
    go_enter Try.func8, Try.ntmps8
    go_wp2_with (fail)
    refine HN.out.mono ?_
    rintro r w' ⟨rfl, rfl⟩
    go_wp2_with (go_at_call 9; refine (awake_any _).mono ?_; rintro e w3 ⟨rfl, hb3⟩)
    go_ret
    exact ⟨rfl, hb3⟩
  · have h1 : 268435456 < room := by omega
    have h2 : 0 ≤ room := by omega
    clear h
    go_enter Try.func8, Try.ntmps8
    go_wp2_with (fail)
    refine HN.out.mono ?_
    rintro r w' ⟨rfl, rfl⟩
    go_wp2_with (go_at_call 9; refine (awake_any _).mono ?_; rintro e w3 ⟨rfl, hb3⟩)
    go_ret
    exact ⟨rfl, hb3⟩
set_option maxRecDepth 100000 in
set_option maxHeartbeats 16000000 in
theorem plays_ok (room : Nat) (A1 : Option Addr) (c1 : Nat) (l1 : List Oq) (w : World) (hroom : room ≤ 268435456) (h1 : RdO w A1 l1) :
    Calls Try.prog 8 #[.int .i64 room, .slice A1 l1.length c1] w fun e w' => e = .returned (.bool true) ∧ Below w.heap.size w w' := by
  have HN := Lib.hid (new_dk room w hroom)
  have R1 := Lib.hid h1
  have HL1 := Lib.hid (fun w' (k : Below w.heap.size w w') => long_any A1 c1 l1 w' (h1.below k))
  have JN := Lib.hid (Jn.new hroom)
  obtain ⟨n1, hn1⟩ : ∃ n, l1.length = n := ⟨_, rfl⟩
  have HN1 := Lib.hid hn1
  rw [hn1] at HL1
  rw [hn1]
  have r0 : (0 : Int) ≤ (room : Int) := by omega
  have r1 : (room : Int) ≤ 268435456 := by omega
  clear h1 hn1 hroom
  unfold ptrV at HN
  go_enter Try.func8, Try.ntmps8
  go_wp2_with (fail)
  refine HN.out.mono ?_
  rintro r w1 ⟨d, rfl, hd1, hb1⟩
  have HD1 := Lib.hid hd1
  have HB1 := Lib.hid hb1
  clear hd1 hb1 HN
  go_wp2_with (fail)
  refine (HL1.out w1 HB1.out).mono ?_
  rintro e w' ⟨⟨b1, rfl, hs1⟩, rfl⟩
  cases b1 with
  | true =>
    clear hs1
    go_wp2_with (go_at_call 9; refine (awake_any _).mono ?_; rintro e w3 ⟨rfl, hb3⟩)
    go_ret
    exact ⟨rfl, HB1.out.trans (hb3.mono HB1.out.size)⟩
  | false =>
    have S1 := Lib.hid (hs1 rfl)
    clear hs1
    go_wp2_with (fail)
    have hbw : Below w1.heap.size w1 (w1.alloc (Obj.cells #[.int .i64 room, .int .i64 0, .int .i64 0, .bool false, .slice none 0 0, .slice none 0 0, .slice none 0 0, .slice none 0 0] 52)) := bl_alloc (Below.refl _ _) _
    have HBO : Hid (Bo (w1.alloc (Obj.cells #[.int .i64 room, .int .i64 0, .int .i64 0, .bool false, .slice none 0 0, .slice none 0 0, .slice none 0 0, .slice none 0 0] 52)) d (newS room) w1.heap.size w.heap.size) := Lib.hid (by
      obtain ⟨L, e, hd, hf⟩ := HD1.out
      exact ⟨⟨L, _, e, hd.below hbw, new_ref (new_heap _ _), hf⟩, HB1.out.size, JN.out⟩)
    have HBB := Lib.hid (HB1.out.trans (hbw.mono HB1.out.size))
    clear hbw HD1 HL1
    generalize w1.heap.size = b at *
    generalize (w1.alloc (Obj.cells #[.int .i64 room, .int .i64 0, .int .i64 0, .bool false, .slice none 0 0, .slice none 0 0, .slice none 0 0, .slice none 0 0] 52)) = W0 at *
    go_loopw [5, 8] (fun vd vi wr => ∃ i : Nat, i ≤ n1 ∧ vi = .int .i64 i ∧ ∃ d s, vd = .pointer (some ⟨d, 0, none⟩) ∧ Bo wr d s b w.heap.size ∧ s.steps ≤ i ∧ Below w.heap.size w wr) (fun _ i _ => n1 - (intOf i).toNat)
    case atStart => exact ⟨0, Nat.zero_le _, rfl, d, newS room, rfl, HBO.out, Nat.le_refl _, HBB.out⟩
    case round =>
      clear HBO HBB
      obtain ⟨i, hin, rfl, d, s, rfl, hbo, hst, hbl⟩ := hrel
      have HDK := Lib.hid hbo
      have HBL := Lib.hid hbl
      clear hbo hbl
      have hn120 : n1 ≤ 120 := by rw [← HN1.out]; exact S1.out.1
      by_cases hi : i < n1
      · have hi0 : (0 : Int) ≤ (i : Int) := by omega
        have hi1 : (i : Int) < (n1 : Int) := by omega
        obtain ⟨ba, off, rfl, hb, hcc⟩ := (R1.out.below HBL.out).1 (by rw [HN1.out]; omega)
        obtain ⟨u0, u1, u2, u3, u4⟩ := hcc i (by rw [HN1.out]; exact hi)
        obtain ⟨o, ho⟩ : ∃ o, l1.getD i zeroO = o := ⟨_, rfl⟩
        have hom : o ∈ l1 := by rw [← ho]; exact getO (by rw [HN1.out]; exact hi)
        have hoq := R1.out.2 o hom
        have hsm := S1.out.2 o hom
        rw [ho] at u0 u1 u2 u3 u4
        have HSM := Lib.hid hsm
        have HOQ := Lib.hid hoq
        have hb9 := bl_alloc (Below.refl wr.heap.size wr) (Obj.cells #[.int .i64 o.k, .string o.nm, .string o.dt, .int .i64 o.n, .slice o.A o.cs.length o.c] 38)
        have HB9 := Lib.hid hb9
        have HX9 := Lib.hid (new_heap wr (Obj.cells #[.int .i64 o.k, .string o.nm, .string o.dt, .int .i64 o.n, .slice o.A o.cs.length o.c] 38))
        clear hcc ho hom hoq hsm hb9
        by_cases hk : o.k = 10
        · have hkb : (o.k == 10) = true := by simp [hk]
          have HB0 := Lib.hid (HDK.out.below HB9.out)
          have HSZ0 : Hid (w.heap.size ≤ (wr.alloc (Obj.cells #[.int .i64 o.k, .string o.nm, .string o.dt, .int .i64 o.n, .slice o.A o.cs.length o.c] 38)).heap.size) := Lib.hid (Nat.le_trans HBL.out.size HB9.out.size)
          have HBW := Lib.hid (HBL.out.trans (HB9.out.mono HBL.out.size))
          have HC1 := Lib.hid (copy_bo HB0.out)
          have hra := append_n1 s o.nm ⟨#[]⟩
          have hrb := create_n1 s bBehind
          have hrc := dsync_n1 (s.create bBehind).2
          have HAP := Lib.hid (fun w' c (h : Dk w' c s (wr.alloc (Obj.cells #[.int .i64 o.k, .string o.nm, .string o.dt, .int .i64 o.n, .slice o.A o.cs.length o.c] 38)).heap.size) hB => append_dk (data := ⟨#[]⟩) h HDK.out.j.iv (by omega) hB HOQ.out.1 (by decide))
          have HCR := Lib.hid (fun w' d c C (h : Cb w' d c s s b w.heap.size C) hB => create_cb h (by omega) hB)
          have HDS := Lib.hid (fun w' d c C (h : Cb w' d c (s.create bBehind).2 s b w.heap.size C) hB => dsync_cb h (HDK.out.j.create (by omega) bBehind) (by have := step_steps s (agCreate s bBehind) (fun t => t.grow.chg ⟨ByteArray.empty, bBehind, t.files.length⟩) rfl; have e : (s.create bBehind).2.steps ≤ s.steps + 1 := this; omega) hB)
          obtain ⟨ra, hra2⟩ : ∃ r, (s.append o.nm ⟨#[]⟩).1 = r := ⟨_, rfl⟩
          obtain ⟨rb, hrb2⟩ : ∃ r, (s.create bBehind).1 = r := ⟨_, rfl⟩
          obtain ⟨rc, hrc2⟩ : ∃ r, (s.create bBehind).2.dsync.1 = r := ⟨_, rfl⟩
          rw [hra2] at hra
          rw [hrb2] at hrb
          rw [hrc2] at hrc
          simp only [hra2] at HAP
          simp only [hrb2] at HCR
          simp only [hrc2] at HDS
          have hra3 : (ra == 1) = false := by simpa using hra
          have hrb3 : (rb == 1) = false := by simpa using hrb
          have hrc3 : (rc == 1) = false := by simpa using hrc
          unfold bBehind at HCR
          unfold ptrV at HC1 HAP HCR HDS
          clear hk hra hrb hrc hra2 hrb2 hrc2
          go_wp2_with (fail)
          refine HC1.out.mono ?_
          rintro r w3 ⟨c, rfl, hbo3, hdk3, hb3⟩
          have x1 := cell_of ((hb3.block _ (Array.getElem?_eq_some_iff.1 HX9.out).1).trans HX9.out) 1
          have xl := (Array.getElem?_eq_some_iff.1 ((hb3.block _ (Array.getElem?_eq_some_iff.1 HX9.out).1).trans HX9.out)).1
          simp only [List.getElem?_toArray, List.getElem?_cons_zero, List.getElem?_cons_succ] at x1
          have HA3 := Lib.hid (HAP.out w3 c hdk3 hb3.size)
          have HB3 := Lib.hid hb3
          clear hbo3 hdk3 hb3 HC1
          go_wp2_with (fail)
          refine HA3.out.mono ?_
          rintro r w4 ⟨rfl, hdk4, hb4⟩
          have HB4 := Lib.hid (HB3.out.trans hb4)
          have BO4 := Lib.hid (HB0.out.below HB4.out)
          have HC2 := Lib.hid (copy_bo BO4.out)
          have HBW4 := Lib.hid (HBW.out.trans (HB4.out.mono HSZ0.out))
          unfold ptrV at HC2
          clear hdk4 hb4 x1 xl HA3 HAP HB3 HB4 HB0
          go_wp2_with (fail)
          refine HC2.out.mono ?_
          rintro r w5 ⟨c2, rfl, hbo5, hdk5, hb5⟩
          have HC5 := Lib.hid (Cb.start BO4.out HBW4.out.size hb5 hdk5)
          have HBW5 := Lib.hid (HBW4.out.trans (hb5.mono HBW4.out.size))
          have HCR5 := Lib.hid (HCR.out w5 d c2 _ HC5.out HBW5.out.size)
          clear hbo5 hdk5 hb5 HC2 HCR BO4
          go_wp2_with (fail)
          refine HCR5.out.mono ?_
          rintro r w6 ⟨rfl, hcb6, hb6⟩
          have HBW6 := Lib.hid (HBW5.out.trans hb6)
          have HDS6 := Lib.hid (HDS.out w6 d c2 _ hcb6 HBW6.out.size)
          clear hcb6 hb6 HCR5 HDS HC5
          go_wp2_with (fail)
          refine HDS6.out.mono ?_
          rintro r w7 ⟨rfl, hcb7, hb7⟩
          have BO7 := Lib.hid hcb7.end_
          have HBW7 := Lib.hid (HBW6.out.trans hb7)
          clear hcb7 hb7 HDS6
          obtain ⟨vt, hrt, htl⟩ := tells_bo BO7.out
          obtain ⟨Af, cf, Ad, cd, Ak, ck, Aw, cw, rfl⟩ := hrt.2.forms
          obtain ⟨t0, t1, t2, t3, t4, t5, t6, t7⟩ := hrt.c
          have tl := hrt.lt
          dsimp only at t4 t5 t6 t7
          have HTL := Lib.hid htl
          unfold refV rcells ptrV at HTL
          clear hrt htl
          go_wp2_with (fail)
          refine HTL.out.mono ?_
          rintro r wt ⟨rfl, hbt⟩
          have BO8 := Lib.hid (BO7.out.below hbt)
          have HBW8 := Lib.hid (HBW7.out.trans (hbt.mono HBW7.out.size))
          clear hbt t0 t1 t2 t3 t4 t5 t6 t7 tl
          go_wp2_with (fail)
          exact ⟨⟨i + 1, by omega, by push_cast; rfl, c2, s, rfl, BO8.out, by omega, HBW8.out⟩, by simp [intOf]; omega⟩
        · have hkb : (o.k == 10) = false := by simpa using hk
          have HB0 := Lib.hid (HDK.out.below HB9.out)
          have HBW := Lib.hid (HBL.out.trans (HB9.out.mono HBL.out.size))
          have HPL := Lib.hid (play_bo HB0.out (by omega) HBW.out.size HOQ.out rfl HBW.out HSM.out)
          have hps := play_steps s o
          unfold opV ptrV at HPL
          clear hk
          go_wp2_with (fail)
          refine HPL.out.mono ?_
          rintro r w7 ⟨rfl, hbo7, hb7⟩
          have BO7 := Lib.hid hbo7
          have HBW7 := Lib.hid (HBW.out.trans hb7)
          clear hbo7 hb7 HPL
          obtain ⟨vt, hrt, htl⟩ := tells_bo BO7.out
          obtain ⟨Af, cf, Ad, cd, Ak, ck, Aw, cw, rfl⟩ := hrt.2.forms
          obtain ⟨t0, t1, t2, t3, t4, t5, t6, t7⟩ := hrt.c
          have tl := hrt.lt
          dsimp only at t4 t5 t6 t7
          have HTL := Lib.hid htl
          unfold refV rcells ptrV at HTL
          clear hrt htl
          go_wp2_with (fail)
          refine HTL.out.mono ?_
          rintro r wt ⟨rfl, hbt⟩
          have BO8 := Lib.hid (BO7.out.below hbt)
          have HBW8 := Lib.hid (HBW7.out.trans (hbt.mono HBW7.out.size))
          clear hbt t0 t1 t2 t3 t4 t5 t6 t7 tl
          go_wp2_with (fail)
          exact ⟨⟨i + 1, by omega, by push_cast; rfl, d, s.play o, rfl, BO8.out, by omega, HBW8.out⟩, by simp [intOf]; omega⟩
      · have hi1 : ¬ (i : Int) < (n1 : Int) := by omega
        go_wp2_with (fail)
        refine (awake_any wr).mono ?_
        rintro e w9 ⟨rfl, hb9⟩
        go_wp2_with (fail)
        go_ret
        exact ⟨rfl, HBL.out.trans (hb9.mono HBL.out.size)⟩
theorem plays_walk (room : Int) (A1 : Option Addr) (c1 : Nat) (l1 : List Oq) (w : World) (hr : (Lit.int .i64 room).wf = true) (h1 : RdO w A1 l1) :
    Calls Try.prog 8 #[.int .i64 room, .slice A1 l1.length c1] w fun e w' => e = .returned (.bool true) ∧ Below w.heap.size w w' := by
  by_cases h : room < 0 ∨ 268435456 < room
  · exact plays_bad room A1 c1 l1 w h
  · obtain ⟨k, rfl⟩ : ∃ k : Nat, room = (k : Int) := ⟨room.toNat, by omega⟩
    exact plays_ok k A1 c1 l1 w (by omega) h1
end Go.Proofs.Ytjgiohlkpenipaa
