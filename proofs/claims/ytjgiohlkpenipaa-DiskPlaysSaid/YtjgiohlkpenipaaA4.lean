/- Contract of changes. Conditions: as each theorem states them. -/
import Derived.Test.YtjgiohlkpenipaaA3
import Derived.Maps.AppendAt
import Derived.Deep.RegionLaw
namespace Go.Proofs.Ytjgiohlkpenipaa
open Go.RowKit Go.Maps
set_option linter.unusedVariables false
set_option linter.unusedSimpArgs false

theorem i68 : (Try.prog.info? 68).map (fun i => (i.zero, i.size, i.bytes)) = some (some (.agg #[.string ⟨#[]⟩, .string ⟨#[]⟩, .pointer none]), 3, 40) := by kernel_rfl
theorem und58 : Try.prog.underlying 58 = some (.slice 68) := by kernel_rfl
/-- append of one change to an own row. -/
theorem step_append_w {ops : Array Oper} {o : Oper} {a : Act} {K : Act → World → Prop} {Q : Exit → Act → World → Prop} {E : Prop} (w : World) (hgd : o.guard = none) (s x : Operand)
    (ho : o.op = .call { callee := .builtin .append, args := #[s, x], argTypes := #[58, 58] }) (n : Nat) (v : Value) (xs : List Value) (hs : a.eval s = v) (hown : w.ownsRow 0 68 3 v n xs)
    (b : Nat) (news : List Value) (hl : news.length = 3) (hx : a.eval x = .slice (some ⟨b, 0, none⟩) 1 1) (hr : ∀ j u, news[j]? = some u → w.cell? ((⟨b, 0, none⟩ : Addr).add j) = some u) (h1 : ∀ u ∈ news, u.oneCell' = true) (hn : n ≤ 1000000)
    (h : ∀ v' w', w'.ownsRow 0 68 3 v' (n + 1) (xs ++ news) → w.grownBy w' v.ownBlock → (v'.ownBlock = v.ownBlock ∨ v'.ownBlock = some w.heap.size) → K (a.put o.dst v') w') :
    if Region.wanted o (yielded ops a.tmps) = true then Oper.wp Try.prog o a w K Q else E := by
  have hw : Region.wanted o (yielded ops a.tmps) = true := by simp [Region.wanted, hgd]
  rw [if_pos hw]
  obtain ⟨i0, hi, hz0, hz1, hz2⟩ := info_parts i68
  obtain ⟨v', w', hr2, h2, h3, _, h5⟩ := run_append_own_at (P := Try.prog) w 0 58 o.type 68 i0 (.agg #[.string ⟨#[]⟩, .string ⟨#[]⟩, .pointer none]) 3 40 und58 hi hz0 hz1 hz2 rfl (by decide) v n xs hown ⟨b, 0, none⟩ 1 1 news hl hr h1 (by unfold maxLen; omega) (by omega) (Nat.zero_le _)
  unfold Oper.wp execOp
  simp only [ho, resolve, invoke, builtin, Sem.run_bind, Sem.run_pure, Result.andThen_ok, List.map_toArray, List.map_cons, List.map_nil, hs, hx, hr2]
  exact h v' w' h2 h3 h5
theorem own_succ {w : World} {B n sz : Nat} {e : TypeId} {v : Value} {xs : List Value} (h : w.ownsRow B e sz v (n + 1) xs) : ∃ g c, v = .slice (some ⟨g, 0, none⟩) (n + 1) c := by
  rcases h.2 with ⟨_, h0⟩ | ⟨g, c, cur, rfl, _⟩
  · cases h0
  · exact ⟨g, c, rfl⟩
/-- A disk whose directory was changed, the change waiting. -/
def DS.chg (s : DS) (c : Ch) : DS := { s with dir := alt s.dir c, waits := s.waits ++ [c] }
theorem mem_alt {l : Dir} {c : Ch} {n : ByteArray} {i : Nat} (h : (n, i) ∈ alt l c) : (n, i) ∈ l ∨ (c.to ≠ ByteArray.empty ∧ c.fi = i) := by
  have h1 : ∀ p, p ∈ (if c.frm = ByteArray.empty then l else wo l c.frm) → p ∈ l := fun p hp => by
    split at hp
    · exact hp
    · exact (mem_wo.1 hp).1
  unfold alt at h
  dsimp only at h
  split at h
  · exact .inl (h1 _ h)
  · rename_i ht
    rcases List.mem_cons.1 ((wi_perm _ _ _).mem_iff.1 h) with e | h
    · cases e
      exact .inr ⟨ht, rfl⟩
    · exact .inl (h1 _ (mem_wo.1 h).1)
theorem has_chg {s : DS} {c : Ch} {i : Nat} (h : (s.chg c).has i) : s.has i ∨ (c.to ≠ ByteArray.empty ∧ c.fi = i) := by
  rcases h with ⟨n, h⟩ | ⟨n, h⟩ | ⟨d, hd, h⟩
  · rcases mem_alt h with h | h
    · exact .inl (.inl ⟨n, h⟩)
    · exact .inr h
  · exact .inl (.inr (.inl ⟨n, h⟩))
  · rcases List.mem_append.1 hd with hd | hd
    · exact .inl (.inr (.inr ⟨d, hd, h⟩))
    · obtain rfl := List.mem_singleton.1 hd
      exact .inr h
theorem DAt.changed {w w4 : World} {L : Lay} {s : DS} {v' : Value} (h : DAt w L s) (c : Ch) (hf : okN c.frm) (ht : okN c.to)
    (HF : c.to ≠ ByteArray.empty → FileAt w (L.bk c.fi) (s.file c.fi) ∧ c.fi < s.files.length ∧ ∀ j, s.has j → L.bk j = L.bk c.fi → j = c.fi)
    (hcells : w4.heap[L.d]? = some (Obj.cells (dcells { L with v := v' } s) 60)) (hdir : ∃ D, MapAt w4 L.md (alt s.dir c) L.bk D) (hrow : w4.ownsRow 0 68 3 v' (s.waits.length + 1) (wcells L.bk (s.waits ++ [c])))
    (hk : Kw (fun b => b = L.d ∨ b = L.md ∨ L.v.ownBlock = some b) w w4) : DAt w4 { L with v := v' } (s.chg c) := by
  obtain ⟨p1, p2, p3, p4⟩ := h.apart
  have hfl : ∀ i, (s.chg c).has i → FileAt w (L.bk i) (s.file i) ∧ i < s.files.length := fun i hi => by
    rcases has_chg hi with hi | ⟨ht, rfl⟩
    · exact h.file i hi
    · exact ⟨(HF ht).1, (HF ht).2.1⟩
  have hap : ∀ i, (s.chg c).has i → ¬ (L.bk i = L.d ∨ L.bk i = L.md ∨ L.v.ownBlock = some (L.bk i)) := fun i hi => by
    have hfi : w.heap[L.bk i]? = _ := (hfl i hi).1
    rintro (e | e | e)
    · rw [e, h.cells] at hfi
      simp [dcells] at hfi
    · obtain ⟨D, hD⟩ := h.dirm
      obtain ⟨es, cl, h1⟩ := hD.heap
      rw [e, h1] at hfi
      cases hfi
    · obtain ⟨_, cur, h3⟩ := own_blk h.row e
      rw [h3] at hfi
      simp at hfi
  refine ⟨hcells, hdir, ?_, ?_, fun i hi => ⟨(hfl i hi).1.kw hk (hap i hi), (hfl i hi).2⟩, fun i j hi hj e => ?_, h.mdq, fun d hd => ?_⟩
  · obtain ⟨D, hD⟩ := h.keptm
    refine ⟨D, hD.kw hk ?_⟩
    rintro (e | e | e)
    · exact p2 e.symm
    · exact h.mdq e.symm
    · exact (p4 _ e).2.2.1 rfl
  · show w4.ownsRow 0 68 3 v' (s.waits ++ [c]).length _
    rw [List.length_append]
    exact hrow
  · dsimp only at e
    rcases has_chg hi with hi | ⟨ht, rfl⟩
    · rcases has_chg hj with hj | ⟨ht, rfl⟩
      · exact h.inj i j hi hj e
      · exact (HF ht).2.2 i hi e
    · rcases has_chg hj with hj | ⟨_, rfl⟩
      · exact ((HF ht).2.2 j hj e.symm).symm
      · rfl
  · rcases List.mem_append.1 hd with hd | hd
    · exact h.okw d hd
    · obtain rfl := List.mem_singleton.1 hd
      exact ⟨hf, ht⟩
theorem changes_end {w w1 w2 W w3 : World} {L : Lay} {s : DS} {v' : Value} {c : Ch} (h : DAt w L s) (hf : okN c.frm) (ht : okN c.to)
    (HF : c.to ≠ ByteArray.empty → FileAt w (L.bk c.fi) (s.file c.fi) ∧ c.fi < s.files.length ∧ ∀ j, s.has j → L.bk j = L.bk c.fi → j = c.fi)
    (hb0 : Below w.heap.size w w1) (hk2 : Kw (fun b => b = L.md) w1.drew w2) (hD2 : ∃ D', MapAt w2 L.md (alt s.dir c) L.bk D') (hW : Below w2.heap.size w2 W) (hg : W.grownBy w3 L.v.ownBlock)
    (hown : w3.ownsRow 0 68 3 v' (s.waits.length + 1) (wcells L.bk s.waits ++ [.string c.frm, .string c.to, chP L.bk c])) (hat : v'.ownBlock = L.v.ownBlock ∨ v'.ownBlock = some W.heap.size) :
    DAt (w3.setCell ⟨L.d, 6, none⟩ v') { L with v := v' } (s.chg c) ∧ Kw (fun b => b = L.d ∨ b = L.md ∨ L.v.ownBlock = some b) w (w3.setCell ⟨L.d, 6, none⟩ v') ∧ ∀ g, v'.ownBlock = some g → L.v.ownBlock = some g ∨ w.heap.size ≤ g := by
  obtain ⟨p1, p2, p3, p4⟩ := h.apart
  have k0 : Kw (fun b => b = L.md) w w2 := (Kw.ofBelow (S := fun b => b = L.md) hb0).drew.trans hk2
  have k1 : Kw (fun b => b = L.md) w W := k0.trans (Kw.ofBelow hW)
  have k2 : Kw (fun b => b = L.md ∨ L.v.ownBlock = some b) w w3 := (k1.mono (fun b _ e => .inl e)).grown hg (fun k hk => .inr hk)
  have k3 : Kw (fun b => b = L.d ∨ b = L.md ∨ L.v.ownBlock = some b) w (w3.setCell ⟨L.d, 6, none⟩ v') := (k2.mono (fun b _ e => .inr e)).setCell (.inl rfl) _
  have h60 : w3.heap[L.d]? = some (Obj.cells (dcells L s) 60) := (k2.block L.d h.lt (by
    rintro (e | e)
    · exact p1 e
    · exact (p4 _ e).1 rfl)).trans h.cells
  refine ⟨h.changed c hf ht HF (set_heap h60) ?_ ?_ k3, k3, fun g hg' => ?_⟩
  · obtain ⟨D, hD⟩ := hD2
    refine ⟨D, ((hD.kw (S := fun b => L.v.ownBlock = some b) ((Kw.ofBelow hW).grown hg (fun k hk => hk)) (fun e => (p4 _ e).2.1 rfl)).kw (S := fun b => b = L.d) ((Kw.refl (fun b => b = L.d) w3).setCell (p := ⟨L.d, 6, none⟩) rfl v') (fun e => p1 e.symm))⟩
  · rw [wcells_snoc]
    refine own_kw (S := fun b => b = L.d) hown ((Kw.refl (fun b => b = L.d) w3).setCell (p := ⟨L.d, 6, none⟩) rfl v') (fun g hg e => ?_)
    obtain ⟨_, cur, h3⟩ := own_blk hown hg
    rw [e, h60] at h3
    simp at h3
  · rcases hat with e | e
    · exact .inl (e ▸ hg')
    · rw [hg'] at e
      cases e
      exact .inr k1.size
set_option maxRecDepth 100000 in
set_option maxHeartbeats 4000000 in
theorem changes_any (L : Lay) (s : DS) (c : Ch) (w : World) (h : DAt w L s) (hf : okN c.frm) (ht : okN c.to) (hL : s.dir.length < maxLen) (hW : s.waits.length ≤ 1000000)
    (HF : c.to ≠ ByteArray.empty → FileAt w (L.bk c.fi) (s.file c.fi) ∧ c.fi < s.files.length ∧ ∀ j, s.has j → L.bk j = L.bk c.fi → j = c.fi) :
    Calls Try.prog 31 #[dP L, chV L.bk c] w fun e w' => e = .returned (.tuple #[]) ∧ ∃ v', DAt w' { L with v := v' } (s.chg c) ∧ Kw (fun b => b = L.d ∨ b = L.md ∨ L.v.ownBlock = some b) w w' ∧ ∀ g, v'.ownBlock = some g → L.v.ownBlock = some g ∨ w.heap.size ≤ g := by
  have HCH := Lib.hid (fun (w4 : World) (v' : Value) => h.changed (w4 := w4) (v' := v') c hf ht HF)
  have HWC : Hid (wcells L.bk (s.waits ++ [c]) = wcells L.bk s.waits ++ [.string c.frm, .string c.to, chP L.bk c]) := Lib.hid (wcells_snoc _ _ _)
  obtain ⟨cp, hcp⟩ : ∃ cp, chP L.bk c = cp := ⟨_, rfl⟩
  have hone : cp.oneCell' = true := by
    rw [← hcp]
    unfold chP
    split <;> rfl
  obtain ⟨a0, a1, a2, a3, a4, a5, a6⟩ := h.c
  have hl := h.lt
  have H := Lib.hid h
  have HA := Lib.hid (fun (w' : World) (D : DataW Unit) (h : MapAt w' L.md s.dir L.bk D) => alter_any c L.md s.dir L.bk D w' h hf ht hL)
  clear h
  have hb0 := bl_alloc (Below.refl w.heap.size w) (Obj.cells #[.string c.frm, .string c.to, chP L.bk c] 68)
  have hbx : (w.alloc (Obj.cells #[.string c.frm, .string c.to, chP L.bk c] 68)).heap[w.heap.size]? = some (Obj.cells #[.string c.frm, .string c.to, chP L.bk c] 68) := new_heap w _
  unfold chV at HA ⊢
  unfold dP
  rw [hcp] at HA hb0 hbx HWC ⊢
  obtain ⟨frm, to, fi⟩ := c
  dsimp only at *
  go_enter Try.func31, Try.ntmps31
  go_wp2_with (fail)
  have hb1 := hb0
  have HX := Lib.hid hbx
  have y4 := (hb0.cell (p := ⟨L.d, 4, none⟩) hl).trans a4
  have hs1 : w.heap.size < (w.alloc (Obj.cells #[.string frm, .string to, cp] 68)).heap.size := by simp
  have hl1 : L.d < (w.alloc (Obj.cells #[.string frm, .string to, cp] 68)).heap.size := by simp; omega
  have x0 : (w.alloc (Obj.cells #[.string frm, .string to, cp] 68)).cell? ⟨w.heap.size, 0, none⟩ = some (.string frm) := cell_of hbx 0
  have x1 : (w.alloc (Obj.cells #[.string frm, .string to, cp] 68)).cell? ⟨w.heap.size, 1, none⟩ = some (.string to) := cell_of hbx 1
  have x2 : (w.alloc (Obj.cells #[.string frm, .string to, cp] 68)).cell? ⟨w.heap.size, 2, none⟩ = some cp := cell_of hbx 2
  generalize (w.alloc (Obj.cells #[.string frm, .string to, cp] 68)) = w1 at *
  obtain ⟨D, hDm⟩ := ((H.out.below hb0).kw (Kw.ofBelow (S := fun _ => False) ((Below.refl w1.heap.size w1).drew)) (fun _ _ h => h)).dirm
  have hap := H.out.apart.1
  have hmdl : L.md ≠ w.heap.size := by
    obtain ⟨_, hD0⟩ := H.out.dirm
    have := hD0.lt
    omega
  go_region_held3 (fun z => z.cell? ⟨w.heap.size, 0, none⟩ = some (.string frm) ∧ z.cell? ⟨w.heap.size, 1, none⟩ = some (.string to) ∧ z.cell? ⟨w.heap.size, 2, none⟩ = some cp ∧ z.cell? ⟨L.d, 4, none⟩ = some (.map (some L.md)))
    (first | exact ⟨x0, x1, x2, y4⟩ | exact ⟨(hk2.cell (i := 0) hs1 hmdl.symm).trans x0, (hk2.cell (i := 1) hs1 hmdl.symm).trans x1, (hk2.cell (i := 2) hs1 hmdl.symm).trans x2, (hk2.cell (i := 4) hl1 hap).trans y4⟩)
    ((first | (go_at_call 44; refine (HA.out _ D hDm).mono ?_; rintro e w2 ⟨rfl, hD2, hk2⟩)))
  rename_i hHeld
  have HK2 := Lib.hid hk2
  have HD2 := Lib.hid hD2
  have hl2 := hk2.size
  have z0 : w2.cell? ⟨w.heap.size, 0, none⟩ = some (.string frm) := (hk2.cell (i := 0) hs1 hmdl.symm).trans x0
  have z1 : w2.cell? ⟨w.heap.size, 1, none⟩ = some (.string to) := (hk2.cell (i := 1) hs1 hmdl.symm).trans x1
  have z2 : w2.cell? ⟨w.heap.size, 2, none⟩ = some cp := (hk2.cell (i := 2) hs1 hmdl.symm).trans x2
  have z6 : w2.cell? ⟨L.d, 6, none⟩ = some L.v := (hk2.cell (i := 6) hl1 hap).trans ((hb0.cell (p := ⟨L.d, 6, none⟩) hl).trans a6)
  have hs2 : w.heap.size < w2.heap.size := Nat.lt_of_lt_of_le hs1 hl2
  have hl2 : L.d < w2.heap.size := Nat.lt_of_lt_of_le hl1 hl2
  have hr2 : w2.ownsRow 0 68 3 L.v s.waits.length (wcells L.bk s.waits) := own_kw (own_kw (own_kw H.out.row (Kw.ofBelow (S := fun b => b = L.md) hb0) (fun g hg => (H.out.apart.2.2.2 g hg).2.1)) (Kw.ofBelow (S := fun b => b = L.md) (Below.refl w1.heap.size w1).drew) (fun g hg => (H.out.apart.2.2.2 g hg).2.1)) hk2 (fun g hg => (H.out.apart.2.2.2 g hg).2.1)
  have HR2 : Hid ((w2.drew.alloc (Obj.cells #[.string frm, .string to, cp] 68)).ownsRow 0 68 3 L.v s.waits.length (wcells L.bk s.waits)) := Lib.hid (own_kw hr2 (Kw.ofBelow (S := fun _ => False) ((Below.refl w2.heap.size w2).drew.alloc (Nat.le_refl _) _)) (fun _ _ h => h))
  have hnew : (w2.drew.alloc (Obj.cells #[.string frm, .string to, cp] 68)).heap[w2.heap.size]? = some (Obj.cells #[.string frm, .string to, cp] 68) := new_heap w2.drew _
  have HNW : Hid (∀ (j : Nat) (u : Value), [Value.string frm, .string to, cp][j]? = some u → (w2.drew.alloc (Obj.cells #[.string frm, .string to, cp] 68)).cell? ((⟨w2.heap.size, 0, none⟩ : Addr).add j) = some u) := Lib.hid (fun j u hu => by
    rw [show (⟨w2.heap.size, 0, none⟩ : Addr).add j = ⟨w2.heap.size, j, none⟩ by unfold Addr.add; split <;> simp_all]
    rw [cell_of hnew j]
    simpa using hu)
  have hc60 : w2.heap[L.d]? = some (Obj.cells (dcells L s) 60) := (hk2.block L.d hl1 hap).trans ((hb0.block L.d hl).trans H.out.cells)
  have HC60 := Lib.hid hc60
  have hfz6 : w2.frozen? ⟨L.d, 6, none⟩ = false := froz_of hc60 6
  have HONE : Hid (∀ u ∈ [Value.string frm, .string to, cp], u.oneCell' = true) := Lib.hid (by
    intro u hu
    simp at hu
    rcases hu with rfl | rfl | rfl
    · rfl
    · rfl
    · exact hone)
  have HGR : Hid (∀ w3, (w2.drew.alloc (Obj.cells #[.string frm, .string to, cp] 68)).grownBy w3 L.v.ownBlock → w3.cell? ⟨L.d, 6, none⟩ = some L.v ∧ w3.frozen? ⟨L.d, 6, none⟩ = false ∧ L.d < w3.heap.size) := Lib.hid (fun w3 hg => by
    have h1 := hg.block L.d (by simp; omega) (fun e => (H.out.apart.2.2.2 _ e.symm).1 rfl)
    have hk : Below w2.heap.size w2 (w2.drew.alloc (Obj.cells #[.string frm, .string to, cp] 68)) := (Below.refl w2.heap.size w2).drew.alloc (Nat.le_refl _) _
    have h2 : w3.heap[L.d]? = some (Obj.cells (dcells L s) 60) := h1.trans ((hk.block L.d hl2).trans hc60)
    exact ⟨cell_of h2 6, froz_of h2 6, (Array.getElem?_eq_some_iff.1 h2).1⟩)
  clear hk2 hD2 hDm x0 x1 x2 y4 hbx hb1 hr2 hnew hc60 hHeld
  go_wp2_with (fail)
  go_region_law
    ((first
      | (refine step_append_w _ rfl _ _ rfl _ _ _ rfl HR2.out w2.heap.size [.string frm, .string to, cp] rfl rfl HNW.out HONE.out hW ?_; intro v3 w3 hown3 hgr3 hat3; obtain ⟨q6, f6, l6⟩ := HGR.out w3 hgr3; obtain ⟨g3, c3, rfl⟩ := own_succ hown3)))
  all_goals (
    go_wp2_with (fail)
    go_end0
    rw [← hcp] at hown3
    exact ⟨rfl, _, changes_end H.out hf ht HF hb0 HK2.out HD2.out ((Below.refl w2.heap.size w2).drew.alloc (Nat.le_refl _) _) hgr3 hown3 hat3⟩)
end Go.Proofs.Ytjgiohlkpenipaa
