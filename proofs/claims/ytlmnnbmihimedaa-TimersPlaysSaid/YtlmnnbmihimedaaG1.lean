/- The contract of Drop. Conditions: as each theorem states them. -/
import Derived.Test.YtlmnnbmihimedaaS3
namespace Go.Proofs.Ytlmnnbmihimedaa
open Go.RowKit Go.Maps
set_option linter.unusedVariables false
set_option linter.unusedSimpArgs false

theorem wpStill_lookup {P : Program} {ops : Array Oper} {w : World} {Q : Act → Prop} {a : Act} {o : Oper} {rest : List Oper} (hg : o.guard = none) (m x : Operand) (t : TypeId) (hop : o.op = Op.lookup t m x false) (mv kv v : Value) (hm : a.eval m = mv) (hx : a.eval x = kv)
    (hrun : (Instr.lookup t mv kv false).run P w = .ok v w) (h : wpStill P ops w Q rest (a.put o.dst v)) : wpStill P ops w Q (o :: rest) a := by
  refine wpStill_step (fun K hK => ?_)
  have hw : Region.wanted o (yielded ops a.tmps) = true := by simp [Region.wanted, hg]
  rw [if_pos hw]
  unfold Oper.still
  simp [execOp, hop, hm, hx, hrun, Result.andThen]
  rw [Oper.stillUpon_value]
  exact hK _ h
set_option maxRecDepth 100000 in
set_option maxHeartbeats 1000000 in
theorem drop_arg (B q m : Nat) (v : Value) (bs : List Nat) (tm : Nat → Tm) (pl : Nat → Int) (x : Tm) (w : World) (h : QAt w B q m v bs tm pl) (hx : chkT x ≠ 0) : Calls Try.prog 26 #[.pointer (some ⟨q, 0, none⟩), tmV x] w fun e w' => e = .returned (.int .i64 2) ∧ Below w.heap.size w w' := by
  have hl := h.heap.lt
  have h3 := h.mp
  have hC := fun w => check_any x w
  have hN := none_any q m (w.alloc (.cells #[.int .i64 x.t, .string x.k, .string x.s] 23)) (((bl_alloc (Below.refl _ _) _).cell (p := ⟨q, 3, none⟩) hl).trans h3)
  have HC := Lib.hid hC
  clear h hC
  have hr : chkT x = 2 := by
    unfold chkT at hx ⊢
    split
    · rfl
    · rename_i h
      rw [if_neg h] at hx
      exact absurd rfl hx
  rw [hr] at HC
  unfold tmV
  obtain ⟨t, k, s⟩ := x
  dsimp only at *
  go_enter Try.func26, Try.ntmps26
  go_wp2_with (fail)
  refine hN.mono ?_
  rintro e w1 ⟨rfl, rfl⟩
  go_wp2_with (fail)
  refine (HC.out _).mono ?_
  rintro e w1 ⟨rfl, hb1⟩
  go_wp2_with (fail)
  go_ret
  exact ⟨rfl, bl_then (bl_alloc (Below.refl _ _) _) hb1⟩
set_option maxRecDepth 100000 in
set_option maxHeartbeats 1000000 in
theorem drop_absent (B q m : Nat) (v : Value) (bs : List Nat) (tm : Nat → Tm) (pl : Nat → Int) (x : Tm) (w : World) (h : QAt w B q m v bs tm pl) (hx : chkT x = 0) (hb : ∀ b ∈ bs, tm b ≠ x) : Calls Try.prog 26 #[.pointer (some ⟨q, 0, none⟩), tmV x] w fun e w' => e = .returned (.int .i64 4) ∧ Below w.heap.size w w' := by
  have hl := h.heap.lt
  have h3 := h.mp
  have hC := fun w => check_any x w
  have hN := none_any q m (w.alloc (.cells #[.int .i64 x.t, .string x.k, .string x.s] 23)) (((bl_alloc (Below.refl _ _) _).cell (p := ⟨q, 3, none⟩) hl).trans h3)
  have HL : Hid (∀ w', Below w.heap.size w w' → (Instr.lookup 56 (.map (some m)) (tmV x) false).run Try.prog w' = .ok (.pointer none) w') := Lib.hid fun w' hw' => (h.below hw').map.look (okT_chk hx) _ (.inr ⟨hb, rfl⟩)
  have HC := Lib.hid hC
  clear h hC
  rw [hx] at HC
  clear hx hb
  unfold tmV at *
  obtain ⟨t, k, s⟩ := x
  dsimp only at *
  go_enter Try.func26, Try.ntmps26
  go_wp2_with (fail)
  refine hN.mono ?_
  rintro e w1 ⟨rfl, rfl⟩
  go_wp2_with (fail)
  refine (HC.out _).mono ?_
  rintro e w1 ⟨rfl, hb1⟩
  have hk1 : Below w.heap.size w w1 := bl_then (bl_alloc (Below.refl _ _) _) hb1
  have hlk : ∀ X : Ext w1, (Instr.lookup 56 (.map (some m)) (.agg #[.int .i64 t, .string k, .string s]) false).run Try.prog X.val = .ok (.pointer none) X.val := fun X => HL.out X.val (hk1.trans (X.bl.mono hk1.size))
  have hs1 := hb1.size
  simp at hs1
  have c0 : w1.cell? ⟨w.heap.size, 0, none⟩ = some (.int .i64 t) := (hb1.cell (p := ⟨w.heap.size, 0, none⟩) (by simp)).trans (by go_keep)
  have c1 : w1.cell? ⟨w.heap.size, 1, none⟩ = some (.string k) := (hb1.cell (p := ⟨w.heap.size, 1, none⟩) (by simp)).trans (by go_keep)
  have c2 : w1.cell? ⟨w.heap.size, 2, none⟩ = some (.string s) := (hb1.cell (p := ⟨w.heap.size, 2, none⟩) (by simp)).trans (by go_keep)
  have c3 : w1.cell? ⟨q, 3, none⟩ = some (.map (some m)) := (hk1.cell (p := ⟨q, 3, none⟩) hl).trans h3
  have l1 : w.heap.size < w1.heap.size := by omega
  have l2 : q < w1.heap.size := by omega
  have e0 := ext_cell c0
  have e1 := ext_cell c1
  have e2 := ext_cell c2
  have e3 := ext_cell c3
  go_wp2_with (fail)
  refine wp_region_ext (by kernel_rfl) (by kernel_rfl) ?_
  repeat (go_big_quiet_step (fail))
  refine wpQuiet_nil ?_
  rintro w2 ⟨⟨_, hb2⟩, rfl⟩
  go_wp2_with (fail)
  go_ret
  exact ⟨rfl, bl_then hk1 hb2⟩
set_option maxRecDepth 100000 in
set_option maxHeartbeats 1000000 in
theorem drop_ok (B q m : Nat) (v : Value) (bs : List Nat) (tm : Nat → Tm) (pl : Nat → Int) (x : Tm) (w : World) (h : QAt w B q m v bs tm pl) (hx : chkT x = 0) (k : Nat) (hk : k < bs.length) (hbx : tm (bs.getD k 0) = x) (hinv : QInv tm bs pl) (hn : bs.length ≤ 100000) : Calls Try.prog 26 #[.pointer (some ⟨q, 0, none⟩), tmV x] w fun e w' => e = .returned (.int .i64 0) ∧ ∃ v', QAt w' B q m v' (cutL tm bs k) tm (cutP tm bs k pl) ∧ Kw (QS q m v bs) w w' ∧ v'.ownBlock = v.ownBlock := by
  have hl := h.heap.lt
  have h3 := h.mp
  have hC := fun w => check_any x w
  have hN := none_any q m (w.alloc (.cells #[.int .i64 x.t, .string x.k, .string x.s] 23)) (((bl_alloc (Below.refl _ _) _).cell (p := ⟨q, 3, none⟩) hl).trans h3)
  have hb : bs.getD k 0 ∈ bs := getD_mem hk
  have hpk : pl (bs.getD k 0) = (k : Int) := hinv.placed k hk
  have hcp := cut_perm tm bs k hk
  have hitb := h.heap.item _ hb
  rw [hpk] at hitb
  obtain ⟨b, hbb⟩ : ∃ b, bs.getD k 0 = b := ⟨_, rfl⟩
  rw [hbb] at hb hbx hcp hitb
  have htb := hbx
  have hnd3 : ((b :: cutL tm bs k).map tm).Nodup := (hcp.map tm).nodup_iff.2 hinv.tnd
  rw [List.map_cons, List.nodup_cons] at hnd3
  have HND3 := Lib.hid hnd3
  have HCP := Lib.hid hcp
  have H := Lib.hid h
  have HTB := Lib.hid htb
  have hpl : w.cell? ⟨b, 3, none⟩ = some (.int .i64 k) := hitb.c3
  have hbl := hitb.lt
  clear hnd3 hcp hpk hbb hitb hinv
  have HL : Hid (∀ w', Below w.heap.size w w' → (Instr.lookup 56 (.map (some m)) (tmV x) false).run Try.prog w' = .ok (ptrV b) w') := Lib.hid fun w' hw' => (h.below hw').map.look (okT_chk hx) _ (.inl ⟨b, hb, htb, rfl⟩)
  have HC := Lib.hid hC
  clear h hC
  rw [hx] at HC
  clear hx htb hbx
  unfold tmV at *
  obtain ⟨t, ks, s⟩ := x
  dsimp only at *
  go_enter Try.func26, Try.ntmps26
  go_wp2_with (fail)
  refine hN.mono ?_
  rintro e w1 ⟨rfl, rfl⟩
  go_wp2_with (fail)
  refine (HC.out _).mono ?_
  rintro e w1 ⟨rfl, hb1⟩
  have hk1 : Below w.heap.size w w1 := bl_then (bl_alloc (Below.refl _ _) _) hb1
  have hlk : ∀ X : Ext w1, (Instr.lookup 56 (.map (some m)) (.agg #[.int .i64 t, .string ks, .string s]) false).run Try.prog X.val = .ok (.pointer (some ⟨b, 0, none⟩)) X.val := fun X => HL.out X.val (hk1.trans (X.bl.mono hk1.size))
  have hs1 := hb1.size
  simp at hs1
  have c0 : w1.cell? ⟨w.heap.size, 0, none⟩ = some (.int .i64 t) := (hb1.cell (p := ⟨w.heap.size, 0, none⟩) (by simp)).trans (by go_keep)
  have c1 : w1.cell? ⟨w.heap.size, 1, none⟩ = some (.string ks) := (hb1.cell (p := ⟨w.heap.size, 1, none⟩) (by simp)).trans (by go_keep)
  have c2 : w1.cell? ⟨w.heap.size, 2, none⟩ = some (.string s) := (hb1.cell (p := ⟨w.heap.size, 2, none⟩) (by simp)).trans (by go_keep)
  have c3 : w1.cell? ⟨q, 3, none⟩ = some (.map (some m)) := (hk1.cell (p := ⟨q, 3, none⟩) hl).trans h3
  have l1 : w.heap.size < w1.heap.size := by omega
  have l2 : q < w1.heap.size := by omega
  have e0 := ext_cell c0
  have e1 := ext_cell c1
  have e2 := ext_cell c2
  have e3 := ext_cell c3
  go_wp2_with (fail)
  refine wp_region_ext (by kernel_rfl) (by kernel_rfl) ?_
  repeat (go_big_quiet_step (fail))
  refine wpQuiet_nil ?_
  rintro w2 ⟨⟨_, hb2⟩, rfl⟩
  have hk2 : Below w.heap.size w w2 := bl_then hk1 hb2
  have hs2 := hb2.size
  have d3 : w2.cell? ⟨q, 3, none⟩ = some (.map (some m)) := (hk2.cell (p := ⟨q, 3, none⟩) hl).trans h3
  have d0 : w2.cell? ⟨w.heap.size, 0, none⟩ = some (.int .i64 t) := (hb2.cell (p := ⟨w.heap.size, 0, none⟩) l1).trans c0
  have d1 : w2.cell? ⟨w.heap.size, 1, none⟩ = some (.string ks) := (hb2.cell (p := ⟨w.heap.size, 1, none⟩) l1).trans c1
  have d2 : w2.cell? ⟨w.heap.size, 2, none⟩ = some (.string s) := (hb2.cell (p := ⟨w.heap.size, 2, none⟩) l1).trans c2
  have d4 : w2.cell? ⟨b, 3, none⟩ = some (.int .i64 k) := (hk2.cell (p := ⟨b, 3, none⟩) hbl).trans hpl
  have l3 : q < w2.heap.size := by omega
  have l4 : w.heap.size < w2.heap.size := by omega
  have l5 : b < w2.heap.size := by omega
  have hlk2 : (Instr.lookup 56 (.map (some m)) (.agg #[.int .i64 t, .string ks, .string s]) false).run Try.prog ({ heap := w2.heap, tape := w2.tape, drawn := w2.drawn + 1, os := w2.os, output := w2.output } : World) = .ok (.pointer (some ⟨b, 0, none⟩)) ({ heap := w2.heap, tape := w2.tape, drawn := w2.drawn + 1, os := w2.os, output := w2.output } : World) := HL.out w2.drew hk2.drew
  clear hlk e0 e1 e2 e3 c0 c1 c2 c3
  go_wp2_with (fail)
  go_still_tail 12, (by kernel_rfl)
  refine wpStill_lookup rfl _ _ 56 rfl _ _ _ rfl rfl hlk2 ?_
  repeat still_step
  refine wpStill_nil ?_
  change wpList _ _ _ _ _ w2.drew
  have hk2d : Below w.heap.size w w2.drew := hk2.drew
  have hq2 := H.out.below hk2d
  have d0 : w2.drew.cell? ⟨w.heap.size, 0, none⟩ = some (.int .i64 t) := d0
  have d1 : w2.drew.cell? ⟨w.heap.size, 1, none⟩ = some (.string ks) := d1
  have d2 : w2.drew.cell? ⟨w.heap.size, 2, none⟩ = some (.string s) := d2
  have l4 : w.heap.size < w2.drew.heap.size := l4
  clear hlk2 d3 d4 l3 l5 HL
  generalize w2.drew = w3 at *
  have HQ2 := Lib.hid hq2
  clear hq2
  go_wp2_with (fail)
  have hap := HQ2.out.apart
  refine (cut_any B q k v bs tm pl w3 HQ2.out.heap hk hn (fun c => QS q m v bs c ∧ c ≠ m) ⟨.inl rfl, hap.1⟩ (fun c hc => ⟨.inr (.inr (.inl hc)), hap.2.1 c hc⟩) (fun g hg => ⟨.inr (.inr (.inr hg)), hap.2.2 g hg⟩)).mono ?_
  rintro e w4 ⟨rfl, v4, hH4, hk4, hv4, hq4⟩
  have hnq : ¬ (QS q m v bs w.heap.size ∧ w.heap.size ≠ m) := fun h => by have := H.out.lt h.1; omega
  have s0 : w4.cell? ⟨w.heap.size, 0, none⟩ = some (.int .i64 t) := (hk4.cell l4 hnq).trans d0
  have s1 : w4.cell? ⟨w.heap.size, 1, none⟩ = some (.string ks) := (hk4.cell l4 hnq).trans d1
  have s2 : w4.cell? ⟨w.heap.size, 2, none⟩ = some (.string s) := (hk4.cell l4 hnq).trans d2
  have s3 : w4.cell? ⟨q, 3, none⟩ = some (.map (some m)) := (hq4 3 (by omega)).trans HQ2.out.mp
  have hsz4 := hk4.size
  have hsz3 := hk2d.size
  have hl4 : q < w4.heap.size := by omega
  have hwl4 : w.heap.size < w4.heap.size := by omega
  have hM4 : MapAt w4.drew m bs tm := (HQ2.out.map.kw hk4 (fun h => h.2 rfl)).kw (S := fun _ => False) (Kw.refl _ _).drew (fun h => h)
  obtain ⟨w5, hrun5, hM5, hturn5⟩ := hM4.del b (cutL tm bs k) HCP.out.symm (fun c hc e => HND3.out.1 (e ▸ List.mem_map_of_mem hc)) 0
  rw [HTB.out] at hrun5
  have HRUN := Lib.hid hrun5
  have HM5 := Lib.hid hM5
  have HT5 := Lib.hid hturn5
  have HH4 := Lib.hid hH4
  have HK4 := Lib.hid hk4
  have HV4 := Lib.hid hv4
  have HQ4 := Lib.hid hq4
  clear hrun5 hM5 hturn5 hH4 hk4 hv4 hq4 hM4 d0 d1 d2 hap
  go_wp2_with (fail)
  go_still_tail 5, (by kernel_rfl)
  change wpList _ _ _ _ _ w4.drew
  refine wpList_delete_run rfl _ _ 56 23 rfl _ _ rfl rfl rfl HRUN.out ?_
  go_wp2_with (fail)
  go_ret
  have hkt : Kw (fun c => c = m) w4 w5 := (Kw.refl _ _).drew.trans (turned_kw HT5.out rfl)
  have hcm : ∀ c ∈ cutL tm bs k, c ∈ bs := fun c hc => HCP.out.mem_iff.1 (List.mem_cons_of_mem _ hc)
  have hap2 := HQ2.out.apart
  refine ⟨rfl, v4, ⟨HH4.out.kw hkt hap2.1 (fun c hc => hap2.2.1 c (hcm c hc)) (fun g hg => hap2.2.2 g (HV4.out ▸ hg)), (hkt.cell hl4 hap2.1).trans s3, HM5.out, H.out.ge.1, H.out.ge.2.1, fun c hc => H.out.ge.2.2 c (hcm c hc)⟩, ?_, HV4.out⟩
  exact (Kw.ofBelow hk2d).trans ((HK4.out.mono (fun _ _ h => h.1)).trans (hkt.mono (fun c _ h => .inr (.inl h))))
end Go.Proofs.Ytlmnnbmihimedaa
