/- The contract of Put, where a timer is put. Conditions: as each theorem states them. -/
import Derived.Test.YtlmnnbmihimedaaC4
import Derived.Test.YtlmnnbmihimedaaD2
namespace Go.Proofs.Ytlmnnbmihimedaa
open Go.RowKit Go.Maps
set_option linter.unusedVariables false
set_option linter.unusedSimpArgs false

def tmSet (tm : Nat → Tm) (b : Nat) (x : Tm) : Nat → Tm := fun c => if c = b then x else tm c
theorem Heap.fn {w : World} {B q : Nat} {v : Value} {bs : List Nat} {tm tm' : Nat → Tm} {pl pl' : Nat → Int} (h : Heap w B q v bs tm pl) (ht : ∀ b ∈ bs, tm' b = tm b) (hp : ∀ b ∈ bs, pl' b = pl b) : Heap w B q v bs tm' pl' := by
  obtain ⟨l, h1, h2, lt, fz, row, it, ap, ne⟩ := h
  refine ⟨l, h1, h2, lt, fz, row, fun b hb => ?_, ap, ne⟩
  rw [ht b hb, hp b hb]
  exact it b hb
theorem wpList_mapUpdate_run {P : Program} {w w' : World} {ops : Array Oper} {rest : List Oper} {o : Oper} {a : Act} {Q : Exit → Act → World → Prop} (hg : o.guard = none) (m x v : Operand) (t : TypeId) (hop : o.op = Op.mapUpdate t m x v) (mv kv vv : Value) (hm : a.eval m = mv) (hx : a.eval x = kv) (hv : a.eval v = vv)
    (hd : o.dst = none) (hrun : (Instr.mapUpdate t mv kv vv).run P w = .ok () w') (hK : wpList P ops Q rest a w') : wpList P ops Q (o :: rest) a w := by
  have hK : wpList P ops Q rest (a.put o.dst undef) w' := by rw [hd]; exact hK
  refine wpList_plain hg fun K' hK' => ?_
  unfold Oper.wp
  simp [execOp, hop, hm, hx, hv, hrun, Result.andThen]
  exact hK' _ _ hK
theorem wpList_delete_run {P : Program} {w w' : World} {ops : Array Oper} {rest : List Oper} {o : Oper} {a : Act} {Q : Exit → Act → World → Prop} (hg : o.guard = none) (m x : Operand) (t k : TypeId) (hop : o.op = Op.call { callee := Callee.builtin Builtin.delete, args := #[m, x], argTypes := #[t, k] }) (mv kv : Value) (hm : a.eval m = mv) (hx : a.eval x = kv)
    (hd : o.dst = none) (hrun : (Builtin.delete_ #[t, k] o.type #[mv, kv]).run P w = .ok (.tuple #[]) w') (hK : wpList P ops Q rest a w') : wpList P ops Q (o :: rest) a w := by
  have hK : wpList P ops Q rest (a.put o.dst (.tuple #[])) w' := by rw [hd]; exact hK
  refine wpList_plain hg fun K' hK' => ?_
  unfold Oper.wp
  simp [execOp, hop, resolve, invoke, builtin, hm, hx, hrun, Result.andThen]
  exact hK' _ _ hK
set_option maxRecDepth 100000 in
set_option maxHeartbeats 2000000 in
theorem put_ok (B q m : Nat) (v : Value) (bs : List Nat) (tm : Nat → Tm) (pl : Nat → Int) (x : Tm) (w : World) (h : QAt w B q m v bs tm pl) (hx : chkT x = 0) (hb : ∀ b ∈ bs, tm b ≠ x) (hfull : bs.length < 1024) (hB : B ≤ w.heap.size) : Calls Try.prog 24 #[.pointer (some ⟨q, 0, none⟩), tmV x] w fun e w' => e = .returned (.int .i64 0) ∧ ∃ v' b', w.heap.size ≤ b' ∧ QAt w' B q m v' (addL (tmSet tm b' x) b' bs) (tmSet tm b' x) (addP (tmSet tm b' x) b' bs (plSet pl b' 0)) ∧ Kw (QS q m v bs) w w' ∧ ∀ g, v'.ownBlock = some g → v.ownBlock = some g ∨ w.heap.size ≤ g := by
  have hl := h.heap.lt
  have h3 := h.mp
  have hC := fun w => check_any x w
  have hN := none_any q m (w.alloc (.cells #[.int .i64 x.t, .string x.k, .string x.s] 23)) (((bl_alloc (Below.refl _ _) _).cell (p := ⟨q, 3, none⟩) hl).trans h3)
  have HL : Hid (∀ w', Below w.heap.size w w' → (Instr.lookup 56 (.map (some m)) (tmV x) false).run Try.prog w' = .ok (.pointer none) w') := Lib.hid fun w' hw' => (h.below hw').map.look (okT_chk hx) _ (.inr ⟨hb, rfl⟩)
  have HN : Hid (∀ w', Below w.heap.size w w' → ∀ ty, (Builtin.len_ #[56] ty #[.map (some m)]).run Try.prog w' = .ok (.int .i64 bs.length) w') := Lib.hid fun w' hw' ty => (h.below hw').map.len ty
  have hfi : (bs.length : Int) < 1024 := by omega
  have H := Lib.hid h
  have HX := Lib.hid hx
  have HB := Lib.hid hb
  have HC := Lib.hid hC
  clear h hC
  rw [hx] at HC
  clear hx hb
  unfold tmV at *
  obtain ⟨t, k, s⟩ := x
  dsimp only at *
  go_enter Try.func24, Try.ntmps24
  go_wp2_with (fail)
  refine hN.mono ?_
  rintro e w1 ⟨rfl, rfl⟩
  go_wp2_with (fail)
  refine (HC.out _).mono ?_
  rintro e w1 ⟨rfl, hb1⟩
  have hk1 : Below w.heap.size w w1 := bl_then (bl_alloc (Below.refl _ _) _) hb1
  have hlk : ∀ X : Ext w1, (Instr.lookup 56 (.map (some m)) (.agg #[.int .i64 t, .string k, .string s]) false).run Try.prog X.val = .ok (.pointer none) X.val := fun X => HL.out X.val (hk1.trans (X.bl.mono hk1.size))
  have hs1 := hb1.size
  simp at hs1
  have c0 : w1.cell? ⟨w.heap.size, 0, none⟩ = some (.int .i64 t) := (hb1.cell (p := ⟨w.heap.size, 0, none⟩) (by simp)).trans (by go_keep)
  have c1 : w1.cell? ⟨w.heap.size, 1, none⟩ = some (.string k) := (hb1.cell (p := ⟨w.heap.size, 1, none⟩) (by simp)).trans (by go_keep)
  have c2 : w1.cell? ⟨w.heap.size, 2, none⟩ = some (.string s) := (hb1.cell (p := ⟨w.heap.size, 2, none⟩) (by simp)).trans (by go_keep)
  have c3 : w1.cell? ⟨q, 3, none⟩ = some (.map (some m)) := (hk1.cell (p := ⟨q, 3, none⟩) hl).trans h3
  have l1 : w.heap.size < w1.heap.size := by omega
  have l2 : q < w1.heap.size := by omega
  have e0 := ext_cell c0
  have e1 := ext_cell c1
  have e2 := ext_cell c2
  have e3 := ext_cell c3
  go_wp2_with (fail)
  refine wp_region_ext (by kernel_rfl) (by kernel_rfl) ?_
  repeat (go_big_quiet_step (fail))
  refine wpQuiet_nil ?_
  rintro w2 ⟨⟨_, hb2⟩, rfl⟩
  have hk2 : Below w.heap.size w w2 := bl_then hk1 hb2
  have hlen := HN.out w2 hk2 3
  have l3 : q < w2.heap.size := by have := hb2.size; omega
  have d3 : w2.cell? ⟨q, 3, none⟩ = some (.map (some m)) := (hk2.cell (p := ⟨q, 3, none⟩) hl).trans h3
  have d0 : w2.cell? ⟨w.heap.size, 0, none⟩ = some (.int .i64 t) := (hb2.cell (p := ⟨w.heap.size, 0, none⟩) l1).trans c0
  have d1 : w2.cell? ⟨w.heap.size, 1, none⟩ = some (.string k) := (hb2.cell (p := ⟨w.heap.size, 1, none⟩) l1).trans c1
  have d2 : w2.cell? ⟨w.heap.size, 2, none⟩ = some (.string s) := (hb2.cell (p := ⟨w.heap.size, 2, none⟩) l1).trans c2
  have l4 : w.heap.size < w2.heap.size := by have := hb2.size; omega
  go_wp2_with (fail)
  obtain ⟨b', hb'⟩ : ∃ b', w2.heap.size = b' := ⟨_, rfl⟩
  have hit : ItemAt (w2.alloc (Obj.cells #[Value.int IntKind.i64 t, Value.string k, Value.string s, Value.int IntKind.i64 0] 64)) b' ⟨t, k, s⟩ 0 := by
    subst hb'
    exact ⟨by go_keep, by go_keep, by go_keep, by go_keep, by
      have e : (w2.alloc (Obj.cells #[Value.int IntKind.i64 t, Value.string k, Value.string s, Value.int IntKind.i64 0] 64)).heap[w2.heap.size]? = some (Obj.cells #[Value.int IntKind.i64 t, Value.string k, Value.string s, Value.int IntKind.i64 0] 64) := Array.getElem?_push_size
      simp only [World.frozen?, e]
      rfl, by simp⟩
  have hk3 : Below w.heap.size w (w2.alloc (Obj.cells #[Value.int IntKind.i64 t, Value.string k, Value.string s, Value.int IntKind.i64 0] 64)) := bl_alloc hk2 _
  have hb23 : Below w2.heap.size w2 (w2.alloc (Obj.cells #[Value.int IntKind.i64 t, Value.string k, Value.string s, Value.int IntKind.i64 0] 64)) := bl_alloc (Below.refl _ _) _
  rw [hb']
  generalize w2.alloc (Obj.cells #[Value.int IntKind.i64 t, Value.string k, Value.string s, Value.int IntKind.i64 0] 64) = w3 at *
  have hs3 := hb23.size
  have g0 : w3.cell? ⟨w.heap.size, 0, none⟩ = some (.int .i64 t) := (hb23.cell (p := ⟨w.heap.size, 0, none⟩) l4).trans d0
  have g1 : w3.cell? ⟨w.heap.size, 1, none⟩ = some (.string k) := (hb23.cell (p := ⟨w.heap.size, 1, none⟩) l4).trans d1
  have g2 : w3.cell? ⟨w.heap.size, 2, none⟩ = some (.string s) := (hb23.cell (p := ⟨w.heap.size, 2, none⟩) l4).trans d2
  have g3 : w3.cell? ⟨q, 3, none⟩ = some (.map (some m)) := (hb23.cell (p := ⟨q, 3, none⟩) l3).trans d3
  have l5 : w.heap.size < w3.heap.size := by omega
  have l6 : q < w3.heap.size := by omega
  have hwb : w.heap.size ≤ b' := by have := hk2.size; omega
  have hQ3 := H.out.below hk3
  have hbb : ∀ c ∈ bs, c ≠ b' := fun c hc e => by have := (H.out.heap.item c hc).lt; omega
  have hts : ∀ c ∈ bs, tmSet tm b' ⟨t, k, s⟩ c = tm c := fun c hc => by unfold tmSet; rw [if_neg (hbb c hc)]
  have htb : tmSet tm b' ⟨t, k, s⟩ b' = ⟨t, k, s⟩ := by unfold tmSet; rw [if_pos rfl]
  have hM3 : MapAt w3.drew m bs (tmSet tm b' ⟨t, k, s⟩) := (hQ3.map.kw (S := fun _ => False) (Kw.refl _ _).drew (fun h => h)).tm hts
  obtain ⟨w4, hrun4, hmap4, hturn4⟩ := hM3.put b' (by rw [htb]; exact okT_chk HX.out) (fun c hc => by rw [hts c hc, htb]; exact HB.out c hc) (by unfold maxLen; omega)
  rw [htb] at hrun4
  have HR4 := Lib.hid hrun4
  have HM4 := Lib.hid hmap4
  have HT4 := Lib.hid hturn4
  have HI := Lib.hid hit
  have HQ3 := Lib.hid hQ3
  have HTB := Lib.hid htb
  have HTS := Lib.hid hts
  have HBB := Lib.hid hbb
  clear hrun4 hmap4 hturn4 hit hQ3 htb hts hbb hM3 hb' c0 c1 c2 c3 d0 d1 d2 d3 e0 e1 e2 e3 hlk hlen HL HN
  go_still_tail 6, (by kernel_rfl)
  change wpList _ _ _ _ _ w3.drew
  refine wpList_mapUpdate_run rfl _ _ _ 56 rfl _ _ _ rfl rfl rfl rfl HR4.out ?_
  have hkt : Kw (fun c => c = m) w3 w4 := (Kw.refl _ _).drew.trans (turned_kw HT4.out rfl)
  have hap := HQ3.out.apart
  have hH4 := (HQ3.out.heap.kw hkt hap.1 hap.2.1 hap.2.2).fn HTS.out (pl' := plSet pl b' 0) (fun c hc => by unfold plSet; rw [if_neg (HBB.out c hc)])
  have hbm : b' ≠ m := by have := H.out.map.lt; omega
  have hI4 := HI.out.kw hkt hbm
  have hI4' : ItemAt w4 b' (tmSet tm b' ⟨t, k, s⟩ b') (plSet pl b' 0 b') := by
    rw [HTB.out]
    unfold plSet
    rw [if_pos rfl]
    exact hI4
  have hk04 : Kw (fun c => QS q m v bs c ∨ w.heap.size ≤ c) w w4 := (Kw.ofBelow hk3).trans (hkt.mono (fun c _ e => by subst e; exact .inl (.inr (.inl rfl))))
  have hs4 := hkt.size
  go_wp2_with (fail)
  refine (add_any B q b' v bs (tmSet tm b' ⟨t, k, s⟩) (plSet pl b' 0) w4 hH4 hI4' (by omega) (fun g hg => by have := H.out.lt (.inr (.inr (.inr hg))); omega) bs.length rfl (by omega) (by omega) (fun c => (QS q m v bs c ∧ c ≠ m) ∨ w.heap.size ≤ c) (.inl ⟨.inl rfl, hap.1⟩) (.inr hwb) (fun c hc => .inl ⟨.inr (.inr (.inl hc)), hap.2.1 c hc⟩) (fun g hg => .inl ⟨.inr (.inr (.inr hg)), hap.2.2 g hg⟩) (fun c hc => .inr (by omega)) _ _ rfl rfl).mono ?_
  rintro e w5 ⟨rfl, v', hH5, hk5, hg5, hq5⟩
  go_wp2_with (fail)
  go_ret
  have hk05 := hk04.trans (hk5.mono (T := fun c => QS q m v bs c ∨ w.heap.size ≤ c) (fun c _ h => h.elim (fun h => .inl h.1) .inr))
  have hml := H.out.map.lt
  refine ⟨rfl, v', b', hwb, ⟨hH5, ?_, ?_, ?_⟩, hk05.mono (fun c hc h => h.resolve_right (by omega)), fun g hg => ?_⟩
  · exact (hq5 3 (by omega)).trans ((hkt.cell (b := q) (by omega) hap.1).trans g3)
  · refine (HM4.out.kw hk5 (fun h => h.elim (fun h => h.2 rfl) (fun h => by omega))).perm ?_
    exact (add_perm _ _ _).trans (List.perm_append_comm (l₁ := bs) (l₂ := [b']))
  · refine ⟨H.out.ge.1, H.out.ge.2.1, fun c hc => ?_⟩
    have := (add_perm (tmSet tm b' ⟨t, k, s⟩) b' bs).mem_iff.1 hc
    rcases List.mem_append.1 this with h | h
    · exact H.out.ge.2.2 c h
    · obtain rfl : c = b' := by simpa using h
      omega
  · rcases hg5 g hg with h | h
    · exact .inl h
    · exact .inr (by omega)
end Go.Proofs.Ytlmnnbmihimedaa
