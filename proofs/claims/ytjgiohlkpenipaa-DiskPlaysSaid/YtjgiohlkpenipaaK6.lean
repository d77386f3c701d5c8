/- The disk and the reference's disk side by side; contract of play. Conditions: as each theorem states them. -/
import Derived.Test.YtjgiohlkpenipaaK3
import Derived.Test.YtjgiohlkpenipaaK5
import Derived.Test.YtjgiohlkpenipaaH0
namespace Go.Proofs.Ytjgiohlkpenipaa
open Go.RowKit Go.Maps
set_option linter.unusedVariables false
set_option linter.unusedSimpArgs false

/-- The reference's disk's blocks are none of the disk's. -/
theorem RefAt.off {w w' : World} {b : Nat} {v : Rv} {s t : DS} {L : Lay} (h : RefAt w b v t) (hd : DAt w L s) (k : Kw (Foot L s) w w') : RefAt w' b v t := by
  have ho : ∀ {e sz n : Nat} {u : Value} {xs : List Value} (h : w.ownsRow 0 e sz u n xs), e ≠ 60 → e ≠ 66 → e ≠ 68 → w'.ownsRow 0 e sz u n xs := fun {e sz n u xs} h h1 h2 h3 => own_kw h k (fun g hg => by
    obtain ⟨_, cur, hc⟩ := own_blk h hg
    exact foot_type hd hc h1 h2 h3)
  exact ⟨(k.block b h.lt (foot_type hd h.1 (by decide) (by decide) (by decide))).trans h.1, ho h.2.f (by decide) (by decide) (by decide), ho h.2.d (by decide) (by decide) (by decide), ho h.2.k (by decide) (by decide) (by decide), ho h.2.w (by decide) (by decide) (by decide)⟩
theorem RefAt.notFoot {w : World} {b : Nat} {v : Rv} {s t : DS} {L : Lay} (h : RefAt w b v t) (hd : DAt w L s) : ¬ Foot L s b := foot_type hd h.1 (by decide) (by decide) (by decide)
theorem DAt.off {w w' : World} {b : Nat} {v : Rv} {s t : DS} {L : Lay} (hd : DAt w L s) (h : RefAt w b v t) (k : Kw (fun x => x = b) w w') : DAt w' L s :=
  hd.kw k (fun x hx e => h.notFoot hd (e ▸ hx))
/-- A block of a call, behind both. -/
theorem box_off {w w' : World} {X : Nat} {cs : Array Value} {s : DS} {L : Lay} (hX : w.heap[X]? = some (Obj.cells cs 38)) (hd : DAt w L s) (k : Kw (Foot L s) w w') : w'.heap[X]? = some (Obj.cells cs 38) :=
  (k.block X (Array.getElem?_eq_some_iff.1 hX).1 (foot_type hd hX (by decide) (by decide) (by decide))).trans hX
theorem box_off2 {w w' : World} {X b : Nat} {v : Rv} {t : DS} {cs : Array Value} (hX : w.heap[X]? = some (Obj.cells cs 38)) (h : RefAt w b v t) (k : Kw (fun x => x = b) w w') : w'.heap[X]? = some (Obj.cells cs 38) :=
  (k.block X (Array.getElem?_eq_some_iff.1 hX).1 (fun e => by
    have h1 := h.1
    rw [← e, hX] at h1
    cases h1)).trans hX
/-- Both have done a call, and are in one state. -/
def PlayR (w : World) (L : Lay) (s : DS) (b : Nat) (s' : DS) (r : Ending) (w' : World) : Prop :=
  r = .returned (.bool true) ∧ ∃ L' v', L'.d = L.d ∧ DAt w' L' s' ∧ RefAt w' b v' s' ∧ Kw (fun x => Foot L s x ∨ x = b) w w' ∧ ∀ x, Foot L' s' x → Foot L s x ∨ w.heap.size ≤ x
theorem play_end {w W w2 w3 : World} {L : Lay} {s s' : DS} {b : Nat} {v : Rv} {L2 : Lay} {v3 : Rv} (hb : Below w.heap.size w W) (hr : RefAt W b v s) (hd : DAt W L s)
    (e2 : L2.d = L.d) (d2 : DAt w2 L2 s') (k2 : Kw (Foot L s) W w2) (f2 : ∀ x, Foot L2 s' x → Foot L s x ∨ W.heap.size ≤ x) (h3 : RefAt w3 b v3 s') (k3 : Kw (fun x => x = b) w2 w3) {r : Ending} (hre : r = .returned (.bool true)) : PlayR w L s b s' r w3 := by
  have hr2 : RefAt w2 b v s := hr.off hd k2
  refine ⟨hre, L2, v3, e2, d2.off hr2 k3, h3, (Kw.ofBelow hb).trans ((k2.mono (fun _ _ h => .inl h)).trans (k3.mono (fun _ _ h => .inr h))), fun x hx => ?_⟩
  rcases f2 x hx with h | h
  · exact .inl h
  · exact .inr (Nat.le_trans hb.size h)
theorem play_end2 {w W w2 w3 : World} {L : Lay} {s : DS} {b : Nat} {v : Rv} {res : Int × DS} {r2 r3 r : Ending} (hb : Below w.heap.size w W) (hr : RefAt W b v s) (hd : DAt W L s)
    (h2 : OpR W L s res r2 w2) (h3 : RefR w2 b res r3 w3) (hre : r = .returned (.bool true)) : PlayR w L s b res.2 r w3 := by
  obtain ⟨_, L2, e2, d2, k2, f2⟩ := h2
  obtain ⟨_, ⟨v3, h3⟩, k3⟩ := h3
  exact play_end hb hr hd e2 d2 k2 f2 h3 k3 hre
/-- A call, and what it leaves. -/
def DS.play (s : DS) (o : Oq) : DS :=
  if o.k = 1 then (s.create o.nm).2 else if o.k = 2 then (s.append o.nm o.dt).2 else if o.k = 3 then (s.fsync o.nm).2 else if o.k = 4 then s.dsync.2
  else if o.k = 5 then (s.rename o.nm o.dt).2 else if o.k = 6 then (s.remove o.nm).2 else if o.k = 7 then s.fuseTo o.n else if o.k = 8 then s.crash o.cs
  else if o.k = 9 then (s.turn o.nm o.n (if 0 < o.dt.size then bAt o.dt 0 else 0)).2 else s
/-- What is kept from call to call. -/
structure Jn (s : DS) : Prop where
  iv : Inv s
  fl : s.files.length ≤ s.steps
  wk : ∀ d ∈ s.waits, d.frm = ByteArray.empty → d.to ≠ ByteArray.empty
theorem DAt.fa {w : World} {L : Lay} {s : DS} (h : DAt w L s) : ∀ i, s.has i → i < s.files.length := fun i hi => (h.file i hi).2
theorem DAt.fb {w : World} {L : Lay} {s : DS} (h : DAt w L s) : Fb s := fun p hp => h.fa p.2 (.inl ⟨p.1, hp⟩)
set_option maxRecDepth 100000 in
set_option maxHeartbeats 8000000 in
theorem play_create (L : Lay) (s : DS) (o : Oq) (b : Nat) (v : Rv) (w : World) (hd : DAt w L s) (hr : RefAt w b v s) (j : Jn s) (hs : s.steps < 1000000) (hn : okN o.nm) (hdn : okN o.dt) (hds : o.dt.size ≤ 2000) (hk : o.k = 1) :
    Calls Try.prog 25 #[dP L, ptrV b, opV o] w (PlayR w L s b (s.play o)) := by
  have hE : s.play o = (s.create o.nm).2 := by unfold DS.play; rw [if_pos hk]
  rw [hE]
  unfold opV
  rw [hk]
  obtain ⟨k, nm, dt, nn, A, cs, c⟩ := o
  dsimp only at *
  clear hE hk
  obtain ⟨res, hres⟩ : ∃ r, s.create nm = r := ⟨_, rfl⟩
  have HX := Lib.hid (new_heap w (Obj.cells #[.int .i64 1, .string nm, .string dt, .int .i64 nn, .slice A cs.length c] 38))
  have HB : Hid (Below w.heap.size w (w.alloc (Obj.cells #[.int .i64 1, .string nm, .string dt, .int .i64 nn, .slice A cs.length c] 38)).drew) := Lib.hid ((bl_alloc (Below.refl w.heap.size w) (Obj.cells #[.int .i64 1, .string nm, .string dt, .int .i64 nn, .slice A cs.length c] 38)).drew)
  have D0 := Lib.hid (hd.below HB.out)
  have R0 := Lib.hid (hr.below HB.out)
  have HDC := Lib.hid (create_any L s nm _ D0.out j.iv.ok hs hn)
  have HRC : Hid (∀ w2 r, OpR (w.alloc (Obj.cells #[.int .i64 1, .string nm, .string dt, .int .i64 nn, .slice A cs.length c] 38)).drew L s res r w2 → Calls Try.prog 53 #[ptrV b, .string nm] w2 (RefR w2 b res)) := Lib.hid (fun w2 r h2 => by
    obtain ⟨_, L2, e2, d2, k2, f2⟩ := h2
    rw [← hres]
    exact rcreate_any b v s nm hn w2 (R0.out.off D0.out k2) j.iv hs j.fl)
  rw [hres] at HDC ⊢
  obtain ⟨re, rs⟩ := res
  have HK1 : Hid ((w.alloc (Obj.cells #[.int .i64 1, .string nm, .string dt, .int .i64 nn, .slice A cs.length c] 38)).drew.cell? ⟨w.heap.size, 1, none⟩ = some (.string nm)) := Lib.hid (by
    have e : (w.alloc (Obj.cells #[.int .i64 1, .string nm, .string dt, .int .i64 nn, .slice A cs.length c] 38)).drew.heap[w.heap.size]? = some (Obj.cells #[.int .i64 1, .string nm, .string dt, .int .i64 nn, .slice A cs.length c] 38) := HX.out
    exact cell_of e 1)
  have HK2 : Hid (∀ z r, OpR (w.alloc (Obj.cells #[.int .i64 1, .string nm, .string dt, .int .i64 nn, .slice A cs.length c] 38)).drew L s (re, rs) r z → z.cell? ⟨w.heap.size, 1, none⟩ = some (.string nm)) := Lib.hid (fun z r h2 => by
    obtain ⟨_, L2, e2, d2, k2, f2⟩ := h2
    have e := box_off (w := (w.alloc (Obj.cells #[.int .i64 1, .string nm, .string dt, .int .i64 nn, .slice A cs.length c] 38)).drew) HX.out D0.out k2
    exact cell_of e 1)
  have HK3 : Hid (∀ z y r q, OpR (w.alloc (Obj.cells #[.int .i64 1, .string nm, .string dt, .int .i64 nn, .slice A cs.length c] 38)).drew L s (re, rs) r z → RefR z b (re, rs) q y → y.cell? ⟨w.heap.size, 1, none⟩ = some (.string nm)) := Lib.hid (fun z y r q h2 h3 => by
    obtain ⟨_, L2, e2, d2, k2, f2⟩ := h2
    have e := box_off2 (box_off (w := (w.alloc (Obj.cells #[.int .i64 1, .string nm, .string dt, .int .i64 nn, .slice A cs.length c] 38)).drew) HX.out D0.out k2) (R0.out.off D0.out k2) h3.2.2
    exact cell_of e 1)
  clear hd hr j hres
  unfold dP ptrV at *
  go_enter Try.func25, Try.ntmps25
  go_wp2_with (fail)
  generalize (w.alloc (Obj.cells #[.int .i64 1, .string nm, .string dt, .int .i64 nn, .slice A cs.length c] 38)) = W at *
  have x1 := HK1.out
  go_region_held3 (fun z => z.cell? ⟨w.heap.size, 1, none⟩ = some (.string nm))
    (first | exact x1 | exact HK3.out _ _ _ _ h2 h3 | exact HK2.out _ _ h2)
    ((first
      | (go_at_call 53; refine (HRC.out _ _ h2).mono ?_; rintro r3 w3 h3; obtain rfl := h3.1)
      | (go_at_call 11; refine HDC.out.mono ?_; rintro r2 w2 h2; obtain rfl := h2.1)))
  rename_i hHeld
  clear hHeld x1
  have H2 := Lib.hid h2
  have H3 := Lib.hid h3
  clear h2 h3
  go_wp2_with (fail)
  go_ret
  exact play_end2 HB.out R0.out D0.out H2.out H3.out rfl
set_option maxRecDepth 100000 in
set_option maxHeartbeats 8000000 in
theorem play_append (L : Lay) (s : DS) (o : Oq) (b : Nat) (v : Rv) (w : World) (hd : DAt w L s) (hr : RefAt w b v s) (j : Jn s) (hs : s.steps < 1000000) (hn : okN o.nm) (hdn : okN o.dt) (hds : o.dt.size ≤ 2000) (hk : o.k = 2) :
    Calls Try.prog 25 #[dP L, ptrV b, opV o] w (PlayR w L s b (s.play o)) := by
  have hE : s.play o = (s.append o.nm o.dt).2 := by unfold DS.play; rw [if_neg (by rw [hk]; decide), if_pos hk]
  rw [hE]
  unfold opV
  rw [hk]
  obtain ⟨k, nm, dt, nn, A, cs, c⟩ := o
  dsimp only at *
  clear hE hk
  obtain ⟨res, hres⟩ : ∃ r, s.append nm dt = r := ⟨_, rfl⟩
  have HX := Lib.hid (new_heap w (Obj.cells #[.int .i64 2, .string nm, .string dt, .int .i64 nn, .slice A cs.length c] 38))
  have HB : Hid (Below w.heap.size w (w.alloc (Obj.cells #[.int .i64 2, .string nm, .string dt, .int .i64 nn, .slice A cs.length c] 38)).drew) := Lib.hid ((bl_alloc (Below.refl w.heap.size w) (Obj.cells #[.int .i64 2, .string nm, .string dt, .int .i64 nn, .slice A cs.length c] 38)).drew)
  have D0 := Lib.hid (hd.below HB.out)
  have R0 := Lib.hid (hr.below HB.out)
  have HDC := Lib.hid (append_any L s nm dt _ D0.out j.iv.ok hs hn hds)
  have HRC : Hid (∀ w2 r, OpR (w.alloc (Obj.cells #[.int .i64 2, .string nm, .string dt, .int .i64 nn, .slice A cs.length c] 38)).drew L s res r w2 → Calls Try.prog 54 #[ptrV b, .string nm, .string dt] w2 (RefR w2 b res)) := Lib.hid (fun w2 r h2 => by
    obtain ⟨_, L2, e2, d2, k2, f2⟩ := h2
    rw [← hres]
    exact rappend_any b v s nm dt hd.fb w2 (R0.out.off D0.out k2) j.iv hs j.fl)
  rw [hres] at HDC ⊢
  obtain ⟨re, rs⟩ := res
  have HK1 : Hid ((w.alloc (Obj.cells #[.int .i64 2, .string nm, .string dt, .int .i64 nn, .slice A cs.length c] 38)).drew.cell? ⟨w.heap.size, 1, none⟩ = some (.string nm) ∧ (w.alloc (Obj.cells #[.int .i64 2, .string nm, .string dt, .int .i64 nn, .slice A cs.length c] 38)).drew.cell? ⟨w.heap.size, 2, none⟩ = some (.string dt)) := Lib.hid (by
    have e : (w.alloc (Obj.cells #[.int .i64 2, .string nm, .string dt, .int .i64 nn, .slice A cs.length c] 38)).drew.heap[w.heap.size]? = some (Obj.cells #[.int .i64 2, .string nm, .string dt, .int .i64 nn, .slice A cs.length c] 38) := HX.out
    exact ⟨cell_of e 1, cell_of e 2⟩)
  have HK2 : Hid (∀ z r, OpR (w.alloc (Obj.cells #[.int .i64 2, .string nm, .string dt, .int .i64 nn, .slice A cs.length c] 38)).drew L s (re, rs) r z → z.cell? ⟨w.heap.size, 1, none⟩ = some (.string nm) ∧ z.cell? ⟨w.heap.size, 2, none⟩ = some (.string dt)) := Lib.hid (fun z r h2 => by
    obtain ⟨_, L2, e2, d2, k2, f2⟩ := h2
    have e := box_off (w := (w.alloc (Obj.cells #[.int .i64 2, .string nm, .string dt, .int .i64 nn, .slice A cs.length c] 38)).drew) HX.out D0.out k2
    exact ⟨cell_of e 1, cell_of e 2⟩)
  have HK3 : Hid (∀ z y r q, OpR (w.alloc (Obj.cells #[.int .i64 2, .string nm, .string dt, .int .i64 nn, .slice A cs.length c] 38)).drew L s (re, rs) r z → RefR z b (re, rs) q y → y.cell? ⟨w.heap.size, 1, none⟩ = some (.string nm) ∧ y.cell? ⟨w.heap.size, 2, none⟩ = some (.string dt)) := Lib.hid (fun z y r q h2 h3 => by
    obtain ⟨_, L2, e2, d2, k2, f2⟩ := h2
    have e := box_off2 (box_off (w := (w.alloc (Obj.cells #[.int .i64 2, .string nm, .string dt, .int .i64 nn, .slice A cs.length c] 38)).drew) HX.out D0.out k2) (R0.out.off D0.out k2) h3.2.2
    exact ⟨cell_of e 1, cell_of e 2⟩)
  clear hd hr j hres
  unfold dP ptrV at *
  go_enter Try.func25, Try.ntmps25
  go_wp2_with (fail)
  generalize (w.alloc (Obj.cells #[.int .i64 2, .string nm, .string dt, .int .i64 nn, .slice A cs.length c] 38)) = W at *
  have x1 := HK1.out
  go_region_held3 (fun z => z.cell? ⟨w.heap.size, 1, none⟩ = some (.string nm) ∧ z.cell? ⟨w.heap.size, 2, none⟩ = some (.string dt))
    (first | exact x1 | exact HK3.out _ _ _ _ h2 h3 | exact HK2.out _ _ h2)
    ((first
      | (go_at_call 54; refine (HRC.out _ _ h2).mono ?_; rintro r3 w3 h3; obtain rfl := h3.1)
      | (go_at_call 12; refine HDC.out.mono ?_; rintro r2 w2 h2; obtain rfl := h2.1)))
  rename_i hHeld
  clear hHeld x1
  have H2 := Lib.hid h2
  have H3 := Lib.hid h3
  clear h2 h3
  go_wp2_with (fail)
  go_ret
  exact play_end2 HB.out R0.out D0.out H2.out H3.out rfl
set_option maxRecDepth 100000 in
set_option maxHeartbeats 8000000 in
theorem play_sync (L : Lay) (s : DS) (o : Oq) (b : Nat) (v : Rv) (w : World) (hd : DAt w L s) (hr : RefAt w b v s) (j : Jn s) (hs : s.steps < 1000000) (hn : okN o.nm) (hdn : okN o.dt) (hds : o.dt.size ≤ 2000) (hk : o.k = 3) :
    Calls Try.prog 25 #[dP L, ptrV b, opV o] w (PlayR w L s b (s.play o)) := by
  have hE : s.play o = (s.fsync o.nm).2 := by unfold DS.play; rw [if_neg (by rw [hk]; decide), if_neg (by rw [hk]; decide), if_pos hk]
  rw [hE]
  unfold opV
  rw [hk]
  obtain ⟨k, nm, dt, nn, A, cs, c⟩ := o
  dsimp only at *
  clear hE hk
  obtain ⟨res, hres⟩ : ∃ r, s.fsync nm = r := ⟨_, rfl⟩
  have HX := Lib.hid (new_heap w (Obj.cells #[.int .i64 3, .string nm, .string dt, .int .i64 nn, .slice A cs.length c] 38))
  have HB : Hid (Below w.heap.size w (w.alloc (Obj.cells #[.int .i64 3, .string nm, .string dt, .int .i64 nn, .slice A cs.length c] 38)).drew) := Lib.hid ((bl_alloc (Below.refl w.heap.size w) (Obj.cells #[.int .i64 3, .string nm, .string dt, .int .i64 nn, .slice A cs.length c] 38)).drew)
  have D0 := Lib.hid (hd.below HB.out)
  have R0 := Lib.hid (hr.below HB.out)
  have HDC := Lib.hid (sync_any L s nm _ D0.out j.iv.ok hs hn)
  have HRC : Hid (∀ w2 r, OpR (w.alloc (Obj.cells #[.int .i64 3, .string nm, .string dt, .int .i64 nn, .slice A cs.length c] 38)).drew L s res r w2 → Calls Try.prog 55 #[ptrV b, .string nm] w2 (RefR w2 b res)) := Lib.hid (fun w2 r h2 => by
    obtain ⟨_, L2, e2, d2, k2, f2⟩ := h2
    rw [← hres]
    exact rsync_any b v s nm hd.fb w2 (R0.out.off D0.out k2) j.iv hs j.fl)
  rw [hres] at HDC ⊢
  obtain ⟨re, rs⟩ := res
  have HK1 : Hid ((w.alloc (Obj.cells #[.int .i64 3, .string nm, .string dt, .int .i64 nn, .slice A cs.length c] 38)).drew.cell? ⟨w.heap.size, 1, none⟩ = some (.string nm)) := Lib.hid (by
    have e : (w.alloc (Obj.cells #[.int .i64 3, .string nm, .string dt, .int .i64 nn, .slice A cs.length c] 38)).drew.heap[w.heap.size]? = some (Obj.cells #[.int .i64 3, .string nm, .string dt, .int .i64 nn, .slice A cs.length c] 38) := HX.out
    exact cell_of e 1)
  have HK2 : Hid (∀ z r, OpR (w.alloc (Obj.cells #[.int .i64 3, .string nm, .string dt, .int .i64 nn, .slice A cs.length c] 38)).drew L s (re, rs) r z → z.cell? ⟨w.heap.size, 1, none⟩ = some (.string nm)) := Lib.hid (fun z r h2 => by
    obtain ⟨_, L2, e2, d2, k2, f2⟩ := h2
    have e := box_off (w := (w.alloc (Obj.cells #[.int .i64 3, .string nm, .string dt, .int .i64 nn, .slice A cs.length c] 38)).drew) HX.out D0.out k2
    exact cell_of e 1)
  have HK3 : Hid (∀ z y r q, OpR (w.alloc (Obj.cells #[.int .i64 3, .string nm, .string dt, .int .i64 nn, .slice A cs.length c] 38)).drew L s (re, rs) r z → RefR z b (re, rs) q y → y.cell? ⟨w.heap.size, 1, none⟩ = some (.string nm)) := Lib.hid (fun z y r q h2 h3 => by
    obtain ⟨_, L2, e2, d2, k2, f2⟩ := h2
    have e := box_off2 (box_off (w := (w.alloc (Obj.cells #[.int .i64 3, .string nm, .string dt, .int .i64 nn, .slice A cs.length c] 38)).drew) HX.out D0.out k2) (R0.out.off D0.out k2) h3.2.2
    exact cell_of e 1)
  clear hd hr j hres
  unfold dP ptrV at *
  go_enter Try.func25, Try.ntmps25
  go_wp2_with (fail)
  generalize (w.alloc (Obj.cells #[.int .i64 3, .string nm, .string dt, .int .i64 nn, .slice A cs.length c] 38)) = W at *
  have x1 := HK1.out
  go_region_held3 (fun z => z.cell? ⟨w.heap.size, 1, none⟩ = some (.string nm))
    (first | exact x1 | exact HK3.out _ _ _ _ h2 h3 | exact HK2.out _ _ h2)
    ((first
      | (go_at_call 55; refine (HRC.out _ _ h2).mono ?_; rintro r3 w3 h3; obtain rfl := h3.1)
      | (go_at_call 13; refine HDC.out.mono ?_; rintro r2 w2 h2; obtain rfl := h2.1)))
  rename_i hHeld
  clear hHeld x1
  have H2 := Lib.hid h2
  have H3 := Lib.hid h3
  clear h2 h3
  go_wp2_with (fail)
  go_ret
  exact play_end2 HB.out R0.out D0.out H2.out H3.out rfl
set_option maxRecDepth 100000 in
set_option maxHeartbeats 8000000 in
theorem play_dsync (L : Lay) (s : DS) (o : Oq) (b : Nat) (v : Rv) (w : World) (hd : DAt w L s) (hr : RefAt w b v s) (j : Jn s) (hs : s.steps < 1000000) (hn : okN o.nm) (hdn : okN o.dt) (hds : o.dt.size ≤ 2000) (hk : o.k = 4) :
    Calls Try.prog 25 #[dP L, ptrV b, opV o] w (PlayR w L s b (s.play o)) := by
  have hE : s.play o = (s.dsync).2 := by unfold DS.play; rw [if_neg (by rw [hk]; decide), if_neg (by rw [hk]; decide), if_neg (by rw [hk]; decide), if_pos hk]
  rw [hE]
  unfold opV
  rw [hk]
  obtain ⟨k, nm, dt, nn, A, cs, c⟩ := o
  dsimp only at *
  clear hE hk
  obtain ⟨res, hres⟩ : ∃ r, s.dsync = r := ⟨_, rfl⟩
  have HX := Lib.hid (new_heap w (Obj.cells #[.int .i64 4, .string nm, .string dt, .int .i64 nn, .slice A cs.length c] 38))
  have HB : Hid (Below w.heap.size w (w.alloc (Obj.cells #[.int .i64 4, .string nm, .string dt, .int .i64 nn, .slice A cs.length c] 38))) := Lib.hid ((bl_alloc (Below.refl w.heap.size w) (Obj.cells #[.int .i64 4, .string nm, .string dt, .int .i64 nn, .slice A cs.length c] 38)))
  have D0 := Lib.hid (hd.below HB.out)
  have R0 := Lib.hid (hr.below HB.out)
  have HDC := Lib.hid (syncdir_any L s _ D0.out j.iv.ok hs)
  have HRC : Hid (∀ w2 r, OpR (w.alloc (Obj.cells #[.int .i64 4, .string nm, .string dt, .int .i64 nn, .slice A cs.length c] 38)) L s res r w2 → Calls Try.prog 56 #[ptrV b] w2 (RefR w2 b res)) := Lib.hid (fun w2 r h2 => by
    obtain ⟨_, L2, e2, d2, k2, f2⟩ := h2
    rw [← hres]
    exact rsyncdir_any b v s w2 (R0.out.off D0.out k2) j.iv hs j.fl)
  rw [hres] at HDC ⊢
  obtain ⟨re, rs⟩ := res
  clear hd hr j hres
  unfold dP ptrV at *
  go_enter Try.func25, Try.ntmps25
  go_wp2_with (fail)
  generalize (w.alloc (Obj.cells #[.int .i64 4, .string nm, .string dt, .int .i64 nn, .slice A cs.length c] 38)) = W at *
  refine HDC.out.mono ?_
  rintro r2 w2 h2
  obtain rfl := h2.1
  have H2 := Lib.hid h2
  clear h2
  go_wp2_with (fail)
  refine (HRC.out _ _ H2.out).mono ?_
  rintro r3 w3 h3
  obtain rfl := h3.1
  have H3 := Lib.hid h3
  clear h3
  go_wp2_with (fail)
  go_ret
  exact play_end2 HB.out R0.out D0.out H2.out H3.out rfl
set_option maxRecDepth 100000 in
set_option maxHeartbeats 8000000 in
theorem play_rename (L : Lay) (s : DS) (o : Oq) (b : Nat) (v : Rv) (w : World) (hd : DAt w L s) (hr : RefAt w b v s) (j : Jn s) (hs : s.steps < 1000000) (hn : okN o.nm) (hdn : okN o.dt) (hds : o.dt.size ≤ 2000) (hk : o.k = 5) :
    Calls Try.prog 25 #[dP L, ptrV b, opV o] w (PlayR w L s b (s.play o)) := by
  have hE : s.play o = (s.rename o.nm o.dt).2 := by unfold DS.play; rw [if_neg (by rw [hk]; decide), if_neg (by rw [hk]; decide), if_neg (by rw [hk]; decide), if_neg (by rw [hk]; decide), if_pos hk]
  rw [hE]
  unfold opV
  rw [hk]
  obtain ⟨k, nm, dt, nn, A, cs, c⟩ := o
  dsimp only at *
  clear hE hk
  obtain ⟨res, hres⟩ : ∃ r, s.rename nm dt = r := ⟨_, rfl⟩
  have HX := Lib.hid (new_heap w (Obj.cells #[.int .i64 5, .string nm, .string dt, .int .i64 nn, .slice A cs.length c] 38))
  have HB : Hid (Below w.heap.size w (w.alloc (Obj.cells #[.int .i64 5, .string nm, .string dt, .int .i64 nn, .slice A cs.length c] 38)).drew) := Lib.hid ((bl_alloc (Below.refl w.heap.size w) (Obj.cells #[.int .i64 5, .string nm, .string dt, .int .i64 nn, .slice A cs.length c] 38)).drew)
  have D0 := Lib.hid (hd.below HB.out)
  have R0 := Lib.hid (hr.below HB.out)
  have HDC := Lib.hid (rename_any L s nm dt _ D0.out j.iv.ok hs hn)
  have HRC : Hid (∀ w2 r, OpR (w.alloc (Obj.cells #[.int .i64 5, .string nm, .string dt, .int .i64 nn, .slice A cs.length c] 38)).drew L s res r w2 → Calls Try.prog 57 #[ptrV b, .string nm, .string dt] w2 (RefR w2 b res)) := Lib.hid (fun w2 r h2 => by
    obtain ⟨_, L2, e2, d2, k2, f2⟩ := h2
    rw [← hres]
    exact rrename_any b v s nm dt hdn w2 (R0.out.off D0.out k2) j.iv hs j.fl)
  rw [hres] at HDC ⊢
  obtain ⟨re, rs⟩ := res
  have HK1 : Hid ((w.alloc (Obj.cells #[.int .i64 5, .string nm, .string dt, .int .i64 nn, .slice A cs.length c] 38)).drew.cell? ⟨w.heap.size, 1, none⟩ = some (.string nm) ∧ (w.alloc (Obj.cells #[.int .i64 5, .string nm, .string dt, .int .i64 nn, .slice A cs.length c] 38)).drew.cell? ⟨w.heap.size, 2, none⟩ = some (.string dt)) := Lib.hid (by
    have e : (w.alloc (Obj.cells #[.int .i64 5, .string nm, .string dt, .int .i64 nn, .slice A cs.length c] 38)).drew.heap[w.heap.size]? = some (Obj.cells #[.int .i64 5, .string nm, .string dt, .int .i64 nn, .slice A cs.length c] 38) := HX.out
    exact ⟨cell_of e 1, cell_of e 2⟩)
  have HK2 : Hid (∀ z r, OpR (w.alloc (Obj.cells #[.int .i64 5, .string nm, .string dt, .int .i64 nn, .slice A cs.length c] 38)).drew L s (re, rs) r z → z.cell? ⟨w.heap.size, 1, none⟩ = some (.string nm) ∧ z.cell? ⟨w.heap.size, 2, none⟩ = some (.string dt)) := Lib.hid (fun z r h2 => by
    obtain ⟨_, L2, e2, d2, k2, f2⟩ := h2
    have e := box_off (w := (w.alloc (Obj.cells #[.int .i64 5, .string nm, .string dt, .int .i64 nn, .slice A cs.length c] 38)).drew) HX.out D0.out k2
    exact ⟨cell_of e 1, cell_of e 2⟩)
  have HK3 : Hid (∀ z y r q, OpR (w.alloc (Obj.cells #[.int .i64 5, .string nm, .string dt, .int .i64 nn, .slice A cs.length c] 38)).drew L s (re, rs) r z → RefR z b (re, rs) q y → y.cell? ⟨w.heap.size, 1, none⟩ = some (.string nm) ∧ y.cell? ⟨w.heap.size, 2, none⟩ = some (.string dt)) := Lib.hid (fun z y r q h2 h3 => by
    obtain ⟨_, L2, e2, d2, k2, f2⟩ := h2
    have e := box_off2 (box_off (w := (w.alloc (Obj.cells #[.int .i64 5, .string nm, .string dt, .int .i64 nn, .slice A cs.length c] 38)).drew) HX.out D0.out k2) (R0.out.off D0.out k2) h3.2.2
    exact ⟨cell_of e 1, cell_of e 2⟩)
  clear hd hr j hres
  unfold dP ptrV at *
  go_enter Try.func25, Try.ntmps25
  go_wp2_with (fail)
  generalize (w.alloc (Obj.cells #[.int .i64 5, .string nm, .string dt, .int .i64 nn, .slice A cs.length c] 38)) = W at *
  have x1 := HK1.out
  go_region_held3 (fun z => z.cell? ⟨w.heap.size, 1, none⟩ = some (.string nm) ∧ z.cell? ⟨w.heap.size, 2, none⟩ = some (.string dt))
    (first | exact x1 | exact HK3.out _ _ _ _ h2 h3 | exact HK2.out _ _ h2)
    ((first
      | (go_at_call 57; refine (HRC.out _ _ h2).mono ?_; rintro r3 w3 h3; obtain rfl := h3.1)
      | (go_at_call 15; refine HDC.out.mono ?_; rintro r2 w2 h2; obtain rfl := h2.1)))
  rename_i hHeld
  clear hHeld x1
  have H2 := Lib.hid h2
  have H3 := Lib.hid h3
  clear h2 h3
  go_wp2_with (fail)
  go_ret
  exact play_end2 HB.out R0.out D0.out H2.out H3.out rfl
set_option maxRecDepth 100000 in
set_option maxHeartbeats 8000000 in
theorem play_remove (L : Lay) (s : DS) (o : Oq) (b : Nat) (v : Rv) (w : World) (hd : DAt w L s) (hr : RefAt w b v s) (j : Jn s) (hs : s.steps < 1000000) (hn : okN o.nm) (hdn : okN o.dt) (hds : o.dt.size ≤ 2000) (hk : o.k = 6) :
    Calls Try.prog 25 #[dP L, ptrV b, opV o] w (PlayR w L s b (s.play o)) := by
  have hE : s.play o = (s.remove o.nm).2 := by unfold DS.play; rw [if_neg (by rw [hk]; decide), if_neg (by rw [hk]; decide), if_neg (by rw [hk]; decide), if_neg (by rw [hk]; decide), if_neg (by rw [hk]; decide), if_pos hk]
  rw [hE]
  unfold opV
  rw [hk]
  obtain ⟨k, nm, dt, nn, A, cs, c⟩ := o
  dsimp only at *
  clear hE hk
  obtain ⟨res, hres⟩ : ∃ r, s.remove nm = r := ⟨_, rfl⟩
  have HX := Lib.hid (new_heap w (Obj.cells #[.int .i64 6, .string nm, .string dt, .int .i64 nn, .slice A cs.length c] 38))
  have HB : Hid (Below w.heap.size w (w.alloc (Obj.cells #[.int .i64 6, .string nm, .string dt, .int .i64 nn, .slice A cs.length c] 38)).drew) := Lib.hid ((bl_alloc (Below.refl w.heap.size w) (Obj.cells #[.int .i64 6, .string nm, .string dt, .int .i64 nn, .slice A cs.length c] 38)).drew)
  have D0 := Lib.hid (hd.below HB.out)
  have R0 := Lib.hid (hr.below HB.out)
  have HDC := Lib.hid (remove_any L s nm _ D0.out j.iv.ok hs hn)
  have HRC : Hid (∀ w2 r, OpR (w.alloc (Obj.cells #[.int .i64 6, .string nm, .string dt, .int .i64 nn, .slice A cs.length c] 38)).drew L s res r w2 → Calls Try.prog 58 #[ptrV b, .string nm] w2 (RefR w2 b res)) := Lib.hid (fun w2 r h2 => by
    obtain ⟨_, L2, e2, d2, k2, f2⟩ := h2
    rw [← hres]
    exact rremove_any b v s nm w2 (R0.out.off D0.out k2) j.iv hs j.fl)
  rw [hres] at HDC ⊢
  obtain ⟨re, rs⟩ := res
  have HK1 : Hid ((w.alloc (Obj.cells #[.int .i64 6, .string nm, .string dt, .int .i64 nn, .slice A cs.length c] 38)).drew.cell? ⟨w.heap.size, 1, none⟩ = some (.string nm)) := Lib.hid (by
    have e : (w.alloc (Obj.cells #[.int .i64 6, .string nm, .string dt, .int .i64 nn, .slice A cs.length c] 38)).drew.heap[w.heap.size]? = some (Obj.cells #[.int .i64 6, .string nm, .string dt, .int .i64 nn, .slice A cs.length c] 38) := HX.out
    exact cell_of e 1)
  have HK2 : Hid (∀ z r, OpR (w.alloc (Obj.cells #[.int .i64 6, .string nm, .string dt, .int .i64 nn, .slice A cs.length c] 38)).drew L s (re, rs) r z → z.cell? ⟨w.heap.size, 1, none⟩ = some (.string nm)) := Lib.hid (fun z r h2 => by
    obtain ⟨_, L2, e2, d2, k2, f2⟩ := h2
    have e := box_off (w := (w.alloc (Obj.cells #[.int .i64 6, .string nm, .string dt, .int .i64 nn, .slice A cs.length c] 38)).drew) HX.out D0.out k2
    exact cell_of e 1)
  have HK3 : Hid (∀ z y r q, OpR (w.alloc (Obj.cells #[.int .i64 6, .string nm, .string dt, .int .i64 nn, .slice A cs.length c] 38)).drew L s (re, rs) r z → RefR z b (re, rs) q y → y.cell? ⟨w.heap.size, 1, none⟩ = some (.string nm)) := Lib.hid (fun z y r q h2 h3 => by
    obtain ⟨_, L2, e2, d2, k2, f2⟩ := h2
    have e := box_off2 (box_off (w := (w.alloc (Obj.cells #[.int .i64 6, .string nm, .string dt, .int .i64 nn, .slice A cs.length c] 38)).drew) HX.out D0.out k2) (R0.out.off D0.out k2) h3.2.2
    exact cell_of e 1)
  clear hd hr j hres
  unfold dP ptrV at *
  go_enter Try.func25, Try.ntmps25
  go_wp2_with (fail)
  generalize (w.alloc (Obj.cells #[.int .i64 6, .string nm, .string dt, .int .i64 nn, .slice A cs.length c] 38)) = W at *
  have x1 := HK1.out
  go_region_held3 (fun z => z.cell? ⟨w.heap.size, 1, none⟩ = some (.string nm))
    (first | exact x1 | exact HK3.out _ _ _ _ h2 h3 | exact HK2.out _ _ h2)
    ((first
      | (go_at_call 58; refine (HRC.out _ _ h2).mono ?_; rintro r3 w3 h3; obtain rfl := h3.1)
      | (go_at_call 47; refine HDC.out.mono ?_; rintro r2 w2 h2; obtain rfl := h2.1)))
  rename_i hHeld
  clear hHeld x1
  have H2 := Lib.hid h2
  have H3 := Lib.hid h3
  clear h2 h3
  go_wp2_with (fail)
  go_ret
  exact play_end2 HB.out R0.out D0.out H2.out H3.out rfl
end Go.Proofs.Ytjgiohlkpenipaa
