/- Contract of model.Do. Conditions: as each theorem states them. -/
import Derived.Test.YtfojblbnhapedaaGreatDoorP6
namespace Go.Proofs.YtfojblbnhapedaaGreatDoor
open Go.RowKit Go.Maps
set_option linter.unusedVariables false
set_option linter.unusedSimpArgs false

/-- The changes of a record. -/
def Md.chs (M : Md) (e : Ev) : List Chg := chO M e.key e.t M.mks.now M.j.ops.length
/-- There is no room for a record. -/
def Md.long (M : Md) (e : Ev) : Prop := e.k = 1 ∧ 1024 < (M.L.length : Int) + cntC (M.chs e)
instance (M : Md) (e : Ev) : Decidable (M.long e) := by unfold Md.long; infer_instance
def Md.rec_ (M : Md) (e : Ev) : PL × PL := if e.k = 1 then recF M.mks.now e.v (M.chs e) (plain M.L) else (plain M.L, [])
def Md.mk2 (M : Md) (e : Ev) : Mk := if e.k = 1 then (M.mks.see e.src e.t).2.2 else if e.k = 2 then (M.mks.told e.src e.t).2 else (M.mks.idle e.src).2
def Md.dr2 (M : Md) (e : Ev) : Int := if e.k = 1 then M.dr + (drO M e.t M.mks.now M.j.ops.length : Nat) else M.dr
/-- The outputs of an event: those of the record, those of what comes due. -/
def Md.o2 (M : Md) (e : Ev) : PL := passO M.mks.now (M.mk2 e).now (M.rec_ e).1
def Md.l2 (M : Md) (e : Ev) : PL := passL M.j.late (M.mk2 e).now (M.rec_ e).1
def Md.ocells (M : Md) (F : Int → List Int → ByteArray) (e : Ev) : List Value := outcells F M.aggAt true (M.rec_ e).2 ++ outcells F M.aggAt false (M.o2 e)
/-- What Do answers and leaves. -/
def DoR (w : World) (B : Lo) (M : Md) (F : Int → List Int → ByteArray) (e : Ev) (r : Ending) (w' : World) : Prop :=
  if ¬ (evB M.j.sources e ∧ evK e) then r = .returned (.tuple #[.slice none 0 0, .int .i64 2]) ∧ Below w.heap.size w w'
  else if M.long e then r = .returned (.tuple #[.slice none 0 0, .int .i64 3]) ∧ Below w.heap.size w w'
  else ∃ v L', r = .returned (.tuple #[v, .int .i64 0]) ∧ w'.ownsRow w.heap.size 56 6 v ((M.rec_ e).2.length + (M.o2 e).length) (M.ocells F e) ∧ plain L' = M.l2 e ∧ MdAt w' B { M with L := L', mks := M.mk2 e, dr := M.dr2 e } ∧ Kw (S3 B) w w'
theorem MdAt.setMk {w w' : World} {B : Lo} {M : Md} {m : Mk} (h : MdAt w B M) (hm : MkAt w' B.bk m) (hk : Kw (fun b => b = B.bk) w w') : MdAt w' B { M with mks := m } := by
  obtain ⟨es, clock, hmc⟩ := h.mapc
  have hmk := h.mks
  unfold MkAt at hmk
  refine ⟨(hk.block _ h.lt (fun e => ?_)).trans h.md, hm, h.map.kw hk (fun e => ?_), h.ops.kw hk (fun a ha => (h.opa a ha).2.2.1), fun y hy => (h.rows y hy).kw hk (fun e => ?_), fun a ha => ⟨Nat.lt_of_lt_of_le (h.opa a ha).1 hk.size, (h.opa a ha).2⟩⟩
  · have h3 := h.md
    rw [e, hmk] at h3
    injection h3 with h3
    injection h3 with _ h3
    exact absurd h3 (by decide)
  · rw [e, hmk] at hmc
    cases hmc
  · obtain ⟨cur, h3⟩ := (h.rows y hy).heap
    rw [e, hmk] at h3
    injection h3 with h3
    injection h3 with _ h3
    exact absurd h3 (by decide)
theorem outcells_one (F : Int → List Int → ByteArray) (ag : Pl → Int) (again : Bool) : ∀ (l : PL), ∀ u ∈ outcells F ag again l, u.oneCell' = true := by
  intro l u hu
  obtain ⟨o, _, ho⟩ := List.mem_flatMap.1 hu
  simp only [List.mem_cons, List.not_mem_nil, or_false] at ho
  rcases ho with rfl | rfl | rfl | rfl | rfl | rfl <;> rfl
/-- What a model must be for Do. -/
structure DoH (w : World) (B : Lo) (M : Md) (F : Int → List Int → ByteArray) (okT : Int → List Int → Prop) (e : Ev) : Prop where
  ok : OkMd M
  ol : OkL M
  tot : tot (plain M.L) ≤ 900000
  dr : 0 ≤ M.dr ∧ M.dr ≤ 1000000000000
  key : okN e.key
  good : evB M.j.sources e → evK e → e.k = 1 → ∀ c ∈ M.chs e, GoodC M c
  told : ToldOk w B F okT
  ok1 : evB M.j.sources e → evK e → ¬ M.long e → ∀ o ∈ (M.rec_ e).2, okT (M.aggAt o.1) o.2
  ok2 : evB M.j.sources e → evK e → ¬ M.long e → ∀ o ∈ M.o2 e, okT (M.aggAt o.1) o.2
  bd : evB M.j.sources e → evK e → ¬ M.long e → ∀ y ∈ (M.rec_ e).1, (-1000000000000000000 ≤ y.1.t ∧ y.1.t ≤ 1000000000000000000) ∧ ∃ i : Nat, i < M.j.ops.length ∧ y.1.op = i
theorem ToldOk.kw {w w' : World} {B : Lo} {F : Int → List Int → ByteArray} {okT : Int → List Int → Prop} (h : ToldOk w B F okT) (k : Kw (S3 B) w w') : ToldOk w' B F okT := fun W g r vs hk => h W g r vs (k.trans hk)
/-- The first words of Do: is the model there, may the event be? -/
theorem chs_len (M : Md) (e : Ev) (ok : OkMd M) (ht1 : -1125899906842624 ≤ e.t) (ht2 : e.t ≤ 1125899906842624) : (M.chs e).length ≤ 1000 := by
  have h := chO_len M e.key M.mks.now e.t (fun i hi => (winsL_bd (opsP_at ok.job.2 i hi).2.2.2 ht1 ht2).1) M.j.ops.length (Nat.le_refl _)
  have h2 := ok.job.1.2.2.2.2.2.2.2.2
  unfold Md.chs
  omega
theorem drO_bd (M : Md) (e : Ev) (ok : OkMd M) (ht1 : -1125899906842624 ≤ e.t) (ht2 : e.t ≤ 1125899906842624) : drO M e.t M.mks.now M.j.ops.length ≤ 1000 := by
  have h := drO_le M M.mks.now e.t (fun i hi => (winsL_bd (opsP_at ok.job.2 i hi).2.2.2 ht1 ht2).1) M.j.ops.length (Nat.le_refl _)
  have h2 := ok.job.1.2.2.2.2.2.2.2.2
  omega
set_option maxRecDepth 100000 in
set_option maxHeartbeats 16000000 in
theorem do_bad (B : Lo) (M : Md) (e : Ev) (w : World) (h : MdAt w B M) (ok : OkMd M) (hkz : okN e.key) (hc : ¬ (evB M.j.sources e ∧ evK e)) :
    Calls Tryz.prog 24 #[ptrV B.bm, evV e] w fun r w' => r = .returned (.tuple #[.slice none 0 0, .int .i64 2]) ∧ Below w.heap.size w w' := by
  have hb := bl_alloc (Below.refl w.heap.size w) (Obj.cells #[.int .i64 e.k, .int .i64 e.src, .int .i64 e.t, .string e.key, .int .i64 e.v] 26)
  have HB := Lib.hid hb
  have hn := heap_alloc_new w (Obj.cells #[.int .i64 e.k, .int .i64 e.src, .int .i64 e.t, .string e.key, .int .i64 e.v] 26)
  have hm := h.below hb
  have HCK : Hid (∀ X : Ext (w.alloc (Obj.cells #[.int .i64 e.k, .int .i64 e.src, .int .i64 e.t, .string e.key, .int .i64 e.v] 26)), Calls Tryz.prog 16 #[jbV M.j, evV e] X.val fun r w' => r = .returned (.int .i64 2) ∧ Below X.val.heap.size X.val w') := Lib.hid (fun X => by
    have h1 := check_ok M.j e X.val (hm.ops.below X.bl) ok.cl ok.cb ok.job hkz
    rw [if_neg hc] at h1
    exact h1)
  have HN := Lib.hid hn
  have HM := Lib.hid hm
  obtain ⟨k, src, t, key, v⟩ := e
  obtain ⟨⟨gr, so, bo, la, l, A, c⟩, mks, L, dr⟩ := M
  unfold ptrV evV jbV at *
  dsimp only at *
  clear h ok hc hb hn hm
  go_enter Tryz.func24, Tryz.ntmps24
  have m5 := HM.out.c 5
  have ml := HM.out.lt
  simp only [mdcells, List.getElem?_toArray, List.getElem?_cons_zero, List.getElem?_cons_succ] at m5
  unfold ptrV at m5
  go_wp2_with (fail)
  generalize (w.alloc (Obj.cells #[.int .i64 k, .int .i64 src, .int .i64 t, .string key, .int .i64 v] 26)) = W at *
  have m0 := ext_cell (v := .int .i64 gr) (HM.out.c 0)
  have m1 := ext_cell (v := .int .i64 so) (HM.out.c 1)
  have m2 := ext_cell (v := .int .i64 bo) (HM.out.c 2)
  have m3 := ext_cell (v := .int .i64 la) (HM.out.c 3)
  have m4 := ext_cell (v := .slice A l.length c) (HM.out.c 4)
  have e0 := ext_cell (v := .int .i64 k) (cell_of HN.out 0)
  have e1 := ext_cell (v := .int .i64 src) (cell_of HN.out 1)
  have e2 := ext_cell (v := .int .i64 t) (cell_of HN.out 2)
  have e3 := ext_cell (v := .string key) (cell_of HN.out 3)
  have e4 := ext_cell (v := .int .i64 v) (cell_of HN.out 4)
  have el := (Array.getElem?_eq_some_iff.1 HN.out).1
  clear m5
  refine wp_region_ext (by kernel_rfl) (by kernel_rfl) ?_
  repeat (go_big_quiet_step ((go_at_call 16; exact ext_calls (HCK.out _))))
  refine wpQuiet_nil ?_
  rintro w3 ⟨⟨_, hb3⟩, rfl⟩
  have HB3 := Lib.hid (bl_then HB.out hb3)
  clear m0 m1 m2 m3 m4 e0 e1 e2 e3 e4 hb3
  go_wp2_with (fail)
  go_ret2
  exact ⟨rfl, HB3.out⟩
end Go.Proofs.YtfojblbnhapedaaGreatDoor
