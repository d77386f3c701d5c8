/- Contract of shares.Right. Conditions: as each theorem states them. -/
import Derived.Test.YtmalcekbhnkfgaaA4
namespace Go.Proofs.Ytmalcekbhnkfgaa
open Go.RowKit Go.Maps Go.Shelf
set_option linter.unusedVariables false
set_option linter.unusedSimpArgs false
attribute [local go_sem] Oper.semAt_some

set_option maxRecDepth 100000 in
set_option maxHeartbeats 4000000 in
theorem right_many (A : Option Addr) (n c : Nat) (l : List Pt) (w : World) (hl : l.length = n) (hn : 16 < n) :
    Calls Try.prog 16 #[.slice A n c] w fun e w' => e = .returned (.bool (rightB l)) ∧ Below w.heap.size w w' := by
  have hr : rightB l = false := rightB_f (fun h => by have := h.1; omega)
  rw [hr]
  have hde : (16 : Int) < (n : Int) := by omega
  clear hl hr hn
  refine (callsIn_wide (n := 10)).1 ?_
  refine callsIn_of_wp_marks Try.func16 rfl trivial ?_ rfl
  refine wpIn_wide.2 ?_
  simp only [Try.ntmps16, List.size_toArray, List.length_cons, List.length_nil, Nat.reduceAdd, Nat.reduceSub, Array.replicate_succ, Array.replicate_zero, List.push_toArray, List.append_toArray, List.nil_append, List.cons_append]
  go_wp2_with (fail)
  have hcell : (w.alloc (Obj.cells #[Value.bool false] 4)).cell? ⟨w.heap.size, 0, none⟩ = some (.bool false) := by go_keep
  exact ⟨.bool false, by simp [results, Try.f16, go_sem, hcell], rfl, bl_alloc (Below.refl _ _) _⟩
theorem sh_parts {f g : Sh} (h : ¬ f = g) (hn : f.nm = g.nm) : ¬ f.tb = g.tb ∨ (f.tb = g.tb ∧ ¬ f.sz = g.sz) ∨ (f.tb = g.tb ∧ f.sz = g.sz ∧ ¬ f.sm = g.sm) := by
  obtain ⟨a, b, c, d, _, _, _, _⟩ := f
  obtain ⟨a', b', c', d', _, _, _, _⟩ := g
  dsimp only at *
  by_cases h1 : a = a'
  · by_cases h2 : b = b'
    · by_cases h3 : c = c'
      · subst h1 h2 h3 hn
        exact absurd rfl h
      · exact .inr (.inr ⟨h1, h2, h3⟩)
    · exact .inr (.inl ⟨h1, h2⟩)
  · exact .inl h1
/-- A file in a block of its own. -/
def BoxS (W : World) (B : Nat) (f : Sh) : Prop := W.heap[B]? = some (Obj.cells #[.int .u64 f.tb, .int .i64 f.sz, .int .u32 f.sm, .int .u64 f.nm] 36)
theorem BoxS.lt {W : World} {B : Nat} {f : Sh} (h : BoxS W B f) : B < W.heap.size := (Array.getElem?_eq_some_iff.1 h).1
theorem BoxS.new (W : World) (f : Sh) : BoxS (W.alloc (Obj.cells #[.int .u64 f.tb, .int .i64 f.sz, .int .u32 f.sm, .int .u64 f.nm] 36)) W.heap.size f := World.alloc_heap_new W _
theorem BoxS.grown {W W' : World} {row : Option Nat} {B : Nat} {f : Sh} (h : BoxS W B f) (hg : W.grownBy W' row) (hne : some B ≠ row) : BoxS W' B f := (hg.block B h.lt hne).trans h
theorem BoxS.own {W W' : World} {row : Option Nat} {B : Nat} {f : Sh} (h : BoxS W B f) (hg : W.grownBy W' row) (hr : ∀ r, row = some r → ∃ o : Obj, W.heap[r]? = some o ∧ o.isCells = false) : BoxS W' B f :=
  h.grown hg (fun e => by
    obtain ⟨o, ho, hc⟩ := hr B e.symm
    rw [show W.heap[B]? = _ from h] at ho
    cases ho
    cases hc)
theorem BoxS.cells {W : World} {B : Nat} {f : Sh} (h : BoxS W B f) : W.cell? ⟨B, 0, none⟩ = some (.int .u64 f.tb) ∧ W.cell? ⟨B, 1, none⟩ = some (.int .i64 f.sz) ∧ W.cell? ⟨B, 2, none⟩ = some (.int .u32 f.sm) ∧ W.cell? ⟨B, 3, none⟩ = some (.int .u64 f.nm) := by
  have h' : W.heap[B]? = _ := h
  simp [World.cell?, h']
theorem BoxS.kw {W W' : World} {B B' : Nat} {f : Sh} (h : BoxS W B f) (k : Below B' W W') (hb : B < B') : BoxS W' B f := (k.block B hb).trans h
theorem dec_f {p : Prop} [Decidable p] (h : ¬ p) : Hid (decide p = false) := Lib.hid (decide_eq_false h)
theorem dec_t {p : Prop} [Decidable p] (h : p) : Hid (decide p = true) := Lib.hid (decide_eq_true h)
set_option maxRecDepth 100000 in
set_option maxHeartbeats 8000000 in
theorem right_few (A : Option Addr) (n c : Nat) (l : List Pt) (w : World) (hl : l.length = n) (hn : n ≤ 16) (hA : RdP w w.heap.size A l) :
    Calls Try.prog 16 #[.slice A n c] w fun e w' => e = .returned (.bool (rightB l)) ∧ Below w.heap.size w w' := by
  have hde : ¬ (16 : Int) < (n : Int) := by omega
  have HLN := Lib.hid hl
  have HA := Lib.hid hA
  clear hl hA
  have hmm := @run_makeMap Try.prog
  refine (callsIn_wide (n := 10)).1 ?_
  refine callsIn_of_wp_marks Try.func16 rfl trivial ?_ rfl
  refine wpIn_wide.2 ?_
  simp only [Try.ntmps16, List.size_toArray, List.length_cons, List.length_nil, Nat.reduceAdd, Nat.reduceSub, Array.replicate_succ, Array.replicate_zero, List.push_toArray, List.append_toArray, List.nil_append, List.cons_append]
  go_wp2_with (fail)
  have bR := Boxed.new w 4 (.bool false)
  have hb0 : Below w.heap.size w (w.alloc (Obj.cells #[Value.bool false] 4)) := bl_alloc (Below.refl _ _) _
  generalize (w.alloc (Obj.cells #[Value.bool false] 4)) = w0 at *
  have BR := Lib.hid bR
  have HB0 := Lib.hid hb0
  clear bR hb0
  go_loopw [15] (fun vi wr => ∃ i : Nat, i ≤ n ∧ vi = .int .i64 i ∧ ((∀ p ∈ l.take i, mayP p) ∧ idsUp (l.take i)) ∧ Boxed wr w.heap.size 4 (.bool false) ∧ Below w.heap.size w wr) (fun i _ => n - (intOf i).toNat)
  case atStart => exact ⟨0, Nat.zero_le _, rfl, ⟨by simp, by simp [idsUp]⟩, BR.out, HB0.out⟩
  case round =>
    obtain ⟨i, hin, rfl, hok, hbx, hbl⟩ := hrel
    have HOK := Lib.hid hok
    have HBX := Lib.hid hbx
    have HBL := Lib.hid hbl
    have hws := hbl.size
    have hlx := hbx.lt
    by_cases hi : i < n
    · have hi0 : (0 : Int) ≤ (i : Int) := by omega
      have hi1 : (i : Int) < (n : Int) := by omega
      have hil : i < l.length := by rw [HLN.out]; exact hi
      obtain ⟨b, off, rfl, hb, _, hc⟩ := HA.out.1 (by omega)
      obtain ⟨a0, a1⟩ := hc i hil
      obtain ⟨hrd, _⟩ := HA.out.2 _ (getP_mem hil)
      obtain ⟨p, hp⟩ : ∃ p, l.getD i zeroP = p := ⟨_, rfl⟩
      rw [hp] at a0 a1 hrd
      have a0 := (hbl.cell (p := ⟨b, off + i * 2, none⟩) hb).trans a0
      have a1 := (hbl.cell (p := ⟨b, off + i * 2 + 1, none⟩) hb).trans a1
      have hbw : b < wr.heap.size := by omega
      have HP := Lib.hid hp
      have HIL := Lib.hid hil
      have HRD := Lib.hid ((hrd.below hbl).more hws (Nat.le_refl _))
      have HC := Lib.hid hc
      have HPM := Lib.hid (getP_mem hil)
      clear hok hbx hbl hp hrd hc hil
      obtain ⟨pid, pfs, pA, pc⟩ := p
      dsimp only at *
      go_wp2_with (fail)
      have hbA : Below wr.heap.size wr (wr.alloc (Obj.cells #[Value.int .u64 pid, Value.slice pA pfs.length pc] 26)) := bl_alloc (Below.refl _ _) _
      have x0 : (wr.alloc (Obj.cells #[Value.int .u64 pid, Value.slice pA pfs.length pc] 26)).cell? ⟨wr.heap.size, 0, none⟩ = some (.int .u64 pid) := by go_keep
      have x1 : (wr.alloc (Obj.cells #[Value.int .u64 pid, Value.slice pA pfs.length pc] 26)).cell? ⟨wr.heap.size, 1, none⟩ = some (.slice pA pfs.length pc) := by go_keep
      have hl0 : wr.heap.size < (wr.alloc (Obj.cells #[Value.int .u64 pid, Value.slice pA pfs.length pc] 26)).heap.size := by simp
      generalize (wr.alloc (Obj.cells #[Value.int .u64 pid, Value.slice pA pfs.length pc] 26)) = w1 at *
      have HB1 := Lib.hid (HBL.out.trans (hbA.mono hws))
      have BX1 : Hid (Boxed w1 w.heap.size 4 (.bool false)) := Lib.hid ((hbA.block _ hlx).trans HBX.out)
      have a0 := (hbA.cell (p := ⟨b, off + i * 2, none⟩) hbw).trans a0
      have HM : Hid (∀ X : Ext w1, Calls Try.prog 29 #[.agg #[.int .u64 pid, .slice pA pfs.length pc]] X.val fun e w' => e = .returned (.bool (mayB ⟨pid, pfs, pA, pc⟩)) ∧ Below X.val.heap.size X.val w') := Lib.hid fun X => may_any ⟨pid, pfs, pA, pc⟩ X.val (by
        have h1 := hbA.size
        have h2 := X.bl.size
        exact (((HRD.out.below hbA).below (X.bl.mono h1)).more (Nat.le_trans h1 h2) (Nat.le_refl _)))
      have hs1 := hbA.size
      clear hbA
      have e0 := ext_cell x0
      have e1 := ext_cell x1
      by_cases hmy : mayP ⟨pid, pfs, pA, pc⟩
      · have hmt := mayB_t hmy
        have HMY := Lib.hid hmy
        rw [hmt] at HM
        clear hmt hmy
        by_cases hi00 : i = 0
        · have H0 : Hid (decide ((0 : Int) < (i : Int)) = false) := dec_f (by omega)
          have H0n : Hid (decide (0 < i) = false) := dec_f (by omega)
          have HV : Hid ((∀ q ∈ l.take (i + 1), mayP q) ∧ idsUp (l.take (i + 1))) := Lib.hid ⟨by
            rw [take_snocP HIL.out, HP.out]
            intro q hq
            rcases List.mem_append.1 hq with h | h
            · exact HOK.out.1 q h
            · rw [List.mem_singleton.1 h]; exact HMY.out, (idsUp_snoc HIL.out HOK.out.2).2 (fun h => by omega)⟩
          clear hi00
          refine wp_region_ext (by kernel_rfl) (by kernel_rfl) ?_
          repeat (first | rw [H0.out] | rw [H0n.out] | go_big_quiet_step ((go_at_call 29; exact ext_calls (HM.out _))))
          refine wpQuiet_nil ?_
          rintro w2 ⟨⟨_, hb2⟩, rfl⟩
          have hs2 := hb2.size
          have BX2 : Boxed w2 w.heap.size 4 (.bool false) := (hb2.block _ (by omega)).trans BX1.out
          have cX := BX2.cell
          have fX := BX2.frozen
          have HB2 := Lib.hid (HB1.out.trans (hb2.mono (by omega)))
          clear hb2 e0 e1
          go_wp2_with (fail)
          go_roundw
          case rel => exact ⟨i + 1, by omega, by first | rfl | (push_cast; rfl) | go_num, HV.out, BX2, HB2.out⟩
          case measure => simp [intOf]; omega
        · have H0 : Hid (decide ((0 : Int) < (i : Int)) = true) := dec_t (by omega)
          have H0n : Hid (decide (0 < i) = true) := dec_t (by omega)
          have hj0 : (0 : Int) ≤ (i : Int) - 1 := by omega
          have hj1 : (i : Int) - 1 < (n : Int) := by omega
          have hjn : ((i : Int) - 1).toNat = i - 1 := by omega
          have hprev := (HC.out (i - 1) (by rw [HLN.out]; omega)).1
          obtain ⟨v, hv⟩ : ∃ v, (l.getD (i - 1) zeroP).id = v := ⟨_, rfl⟩
          rw [hv] at hprev
          have HVV := Lib.hid hv
          have hprev := (HB1.out.cell (p := ⟨b, off + (i - 1) * 2, none⟩) hb).trans hprev
          have e2 := ext_cell hprev
          clear hv
          by_cases hge : pid ≤ v
          · have H1 : Hid (decide (pid ≤ v) = true) := dec_t hge
            have HU : Hid (rightB l = false) := Lib.hid (rightB_f (fun h => by
              have h3 := (idsUp_snoc HIL.out HOK.out.2).1 (h.2.2.1.take (i + 1)) (by omega)
              rw [HVV.out, HP.out] at h3
              exact absurd h3 (by dsimp only; omega)))
            clear hge hi00
            refine wp_region_ext (by kernel_rfl) (by kernel_rfl) ?_
            repeat (first | rw [H0.out] | rw [H0n.out] | rw [H1.out] | go_big_quiet_step ((go_at_call 29; exact ext_calls (HM.out _))))
            refine wpQuiet_nil ?_
            rintro w2 ⟨⟨_, hb2⟩, rfl⟩
            have hs2 := hb2.size
            have BX2 : Boxed w2 w.heap.size 4 (.bool false) := (hb2.block _ (by omega)).trans BX1.out
            have cX := BX2.cell
            have fX := BX2.frozen
            have HB2 := Lib.hid (HB1.out.trans (hb2.mono (by omega)))
            clear hb2 e0 e1 e2
            go_wp2_with (fail)
            have hcell : (w2.setCell { block := w.heap.size, off := 0 } (Value.bool false)).cell? ⟨w.heap.size, 0, none⟩ = some (.bool false) := (BX2.set (.bool false)).cell
            exact ⟨.bool false, by simp [results, Try.f16, go_sem, hcell], by rw [HU.out], HB2.out.setCell (p := ⟨w.heap.size, 0, none⟩) (Nat.le_refl _) _⟩
          · have H1 : Hid (decide (pid ≤ v) = false) := dec_f hge
            have HV : Hid ((∀ q ∈ l.take (i + 1), mayP q) ∧ idsUp (l.take (i + 1))) := Lib.hid ⟨by
              rw [take_snocP HIL.out, HP.out]
              intro q hq
              rcases List.mem_append.1 hq with h | h
              · exact HOK.out.1 q h
              · rw [List.mem_singleton.1 h]; exact HMY.out, (idsUp_snoc HIL.out HOK.out.2).2 (fun h => by rw [HVV.out, HP.out]; dsimp only; omega)⟩
            clear hge hi00
            refine wp_region_ext (by kernel_rfl) (by kernel_rfl) ?_
            repeat (first | rw [H0.out] | rw [H0n.out] | rw [H1.out] | go_big_quiet_step ((go_at_call 29; exact ext_calls (HM.out _))))
            refine wpQuiet_nil ?_
            rintro w2 ⟨⟨_, hb2⟩, rfl⟩
            have hs2 := hb2.size
            have BX2 : Boxed w2 w.heap.size 4 (.bool false) := (hb2.block _ (by omega)).trans BX1.out
            have cX := BX2.cell
            have fX := BX2.frozen
            have HB2 := Lib.hid (HB1.out.trans (hb2.mono (by omega)))
            clear hb2 e0 e1 e2
            go_wp2_with (fail)
            go_roundw
            case rel => exact ⟨i + 1, by omega, by first | rfl | (push_cast; rfl) | go_num, HV.out, BX2, HB2.out⟩
            case measure => simp [intOf]; omega
      · have hmf := mayB_f hmy
        have HU : Hid (rightB l = false) := Lib.hid (rightB_f (fun h => hmy (by have := h.2.1 _ HPM.out; rw [HP.out] at this; exact this)))
        rw [hmf] at HM
        clear hmf hmy
        refine wp_region_ext (by kernel_rfl) (by kernel_rfl) ?_
        repeat (go_big_quiet_step ((go_at_call 29; exact ext_calls (HM.out _))))
        refine wpQuiet_nil ?_
        rintro w2 ⟨⟨_, hb2⟩, rfl⟩
        have hs2 := hb2.size
        have BX2 : Boxed w2 w.heap.size 4 (.bool false) := (hb2.block _ (by omega)).trans BX1.out
        have cX := BX2.cell
        have fX := BX2.frozen
        have HB2 := Lib.hid (HB1.out.trans (hb2.mono (by omega)))
        clear hb2 e0 e1
        go_wp2_with (fail)
        have hcell : (w2.setCell { block := w.heap.size, off := 0 } (Value.bool false)).cell? ⟨w.heap.size, 0, none⟩ = some (.bool false) := (BX2.set (.bool false)).cell
        exact ⟨.bool false, by simp [results, Try.f16, go_sem, hcell], by rw [HU.out], HB2.out.setCell (p := ⟨w.heap.size, 0, none⟩) (Nat.le_refl _) _⟩
    · have hine : i = n := by omega
      subst hine
      have hirr : ¬ (i : Int) < (i : Int) := by omega
      clear hok hbx hbl
      go_wp2_with (go_at_call 30; refine (callsIn_wide.1 (files_in Fence.wide 5 trivial rfl _ _ _ _)).mono ?_; rintro e w' ⟨rfl, rfl⟩)
      have hR1 := HBX.out
      have hBl1 := HBL.out
      have hlen := HLN.out
      have hfsl : ∀ p ∈ l, p.fs.length ≤ 256 := fun p hp => by have := HOK.out.1; rw [List.take_of_length_le (by omega)] at this; exact (this p hp).2.1
      have hflat : (flat 0 l).length ≤ 4096 := by have := flat_length_le 0 l hfsl; omega
      have hOKl : (∀ p ∈ l, mayP p) ∧ idsUp l := by have := HOK.out; rwa [List.take_of_length_le (by omega)] at this
      have hb3 : Below wr.heap.size wr (((wr.alloc (Obj.map #[] 0)).alloc (Obj.cells #[Value.map (some wr.heap.size)] 61)).alloc (Obj.cells #[Value.slice A i c] 22)) := bl_alloc (bl_alloc (bl_alloc (Below.refl _ _) _) _) _
      have hF0 : FstAt (((wr.alloc (Obj.map #[] 0)).alloc (Obj.cells #[Value.map (some wr.heap.size)] 61)).alloc (Obj.cells #[Value.slice A i c] 22)) wr.heap.size [] := ((FstAt.made wr).grown (World.grownBy_alloc _ _ none) (by simp)).grown (World.grownBy_alloc _ _ none) (by simp)
      have bM : Boxed (((wr.alloc (Obj.map #[] 0)).alloc (Obj.cells #[Value.map (some wr.heap.size)] 61)).alloc (Obj.cells #[Value.slice A i c] 22)) (wr.heap.size + 1) 61 (.map (some wr.heap.size)) := by
        have h := (Boxed.new (wr.alloc (Obj.map #[] 0)) 61 (.map (some wr.heap.size))).alloc (Obj.cells #[Value.slice A i c] 22)
        simpa using h
      have bS : Boxed (((wr.alloc (Obj.map #[] 0)).alloc (Obj.cells #[Value.map (some wr.heap.size)] 61)).alloc (Obj.cells #[Value.slice A i c] 22)) (wr.heap.size + 1 + 1) 22 (.slice A i c) := by
        have h := Boxed.new ((wr.alloc (Obj.map #[] 0)).alloc (Obj.cells #[Value.map (some wr.heap.size)] 61)) 22 (.slice A i c)
        simpa using h
      have hsz : (((wr.alloc (Obj.map #[] 0)).alloc (Obj.cells #[Value.map (some wr.heap.size)] 61)).alloc (Obj.cells #[Value.slice A i c] 22)).heap.size = wr.heap.size + 3 := by simp
      generalize (((wr.alloc (Obj.map #[] 0)).alloc (Obj.cells #[Value.map (some wr.heap.size)] 61)).alloc (Obj.cells #[Value.slice A i c] 22)) = WL at *
      have hBL : Below w.heap.size w WL := hBl1.trans (hb3.mono hws)
      have bR : Boxed WL w.heap.size 4 (.bool false) := (hb3.block _ hlx).trans hR1
      have hPL : RdP WL w.heap.size A l := HA.out.below hBL
      refine (wpIn_wide (n := 10)).1 ?_
      refine wpIn_rangeFunc_ownH rfl (by omega) (gf := 44) (lb := #[.pointer (some ⟨wr.heap.size + 1 + 1, 0, none⟩)]) rfl trivial (enters_of Try.func44 (by kernel_rfl) rfl)
        (files_stops Fence.wide (10 - 1) trivial rfl (by omega) (wr.heap.size + 1 + 1) w.heap.size A c l (by omega) (fun p hp => by have := hfsl p hp; omega) WL (by omega) (by omega) (by rw [hlen]; exact bS.cell) hPL) belowK_t (belowK_b (by omega)) (Below.refl _ _) (fun _ => rfl)
        (fun pre W => (((noClash (pre.map Prod.snd) ∧ FstAt W wr.heap.size (pre.map Prod.snd)) ∧ Boxed W (wr.heap.size + 1) 61 (.map (some wr.heap.size))) ∧ Boxed W w.heap.size 4 (.bool false)) ∧ Below w.heap.size w W)
        (fun cd pre W => ((cd = .ret ∧ ¬ noClash (pre.map Prod.snd)) ∧ Boxed W w.heap.size 4 (.bool false)) ∧ Below w.heap.size w W)
        (OwnFrom.and (OwnFrom.and (OwnFrom.and (OwnFrom.and (ownFrom_pure _ _) (fun s X Y row hs hg hr => hs.grown hg (fun e => by have := (hr _ e.symm).1; omega))) (Own.from (boxed_own _ _ _) _)) (Own.from (boxed_own _ _ _) _)) (ownFrom_below (Nat.le_refl _) (by omega)))
        (fun cd => OwnFrom.and (OwnFrom.and (ownFrom_pure _ _) (Own.from (boxed_own _ _ _) _)) (ownFrom_below (Nat.le_refl _) (by omega)))
        ⟨⟨⟨⟨by simp [noClash], hF0⟩, bM⟩, bR⟩, hBL⟩
        (fun x a' W => ∃ Bx, wr.heap.size + 1 < Bx ∧ BoxS W Bx x.2 ∧ a' = { tmps := #[.slice A i c, undef, .pointer (some ⟨w.heap.size, 0, none⟩), u3, u4, .pointer (some ⟨wr.heap.size + 1, 0, none⟩), undef, .pointer (some ⟨Bx, 0, none⟩), undef, undef, .slice A i c, .int .i64 (i : Int), .bool false, .slice A i c, .int .i64 (i : Int), .int .i64 (i : Int), .bool false, u17, u18, u19, u20, u21, u22, u23, u24, u25, u26, u27, u28, u29, u30, u31, u32, u33, u34, u35, u36, u37, u38, .map (some wr.heap.size), .slice A i c, .func (.func 44) #[] #[.pointer (some ⟨wr.heap.size + 1 + 1, 0, none⟩)], .int .i64 (x.1 : Int), shV x.2, undef, undef, undef, undef, undef, undef, undef, undef, undef, undef, undef, undef, undef, undef, undef, undef, undef], defers := [] })
        (fun x a' _ X Y row hs hg hr => by obtain ⟨Bx, e1, e2, e3⟩ := hs; exact ⟨Bx, e1, e2.own hg (fun r e => (hr r e).2), e3⟩)
        ?assign ?body ?done ?stop
      case assign =>
        rintro lp pre x W K ⟨⟨⟨⟨h1, h2⟩, h3⟩, h4⟩, h5⟩ hK
        simp only [encN, shV]
        gi_wp2
        exact hK _ _ ((KeepsOthers.alloc _ _).from _) ((Below.refl _ W).alloc h5.size _) ⟨⟨⟨⟨h1, h2.grown (World.grownBy_alloc _ _ none) (by simp)⟩, h3.alloc _⟩, h4.alloc _⟩, h5.alloc h5.size _⟩ ⟨W.heap.size, h3.lt, BoxS.new W x.2, rfl⟩
      case body =>
        rintro lp pre x a' W hlp ⟨r, hr⟩ ⟨⟨⟨⟨h1, h2⟩, h3⟩, h4⟩, h5⟩ ⟨Bx, hBx, hxb, rfl⟩ hpl
        have cM := h3.cell
        obtain ⟨y0, y1, y2, y3⟩ := hxb.cells
        have hsW := h5.size
        have hlm := h3.lt
        have hlr := h4.lt
        have hlX := hxb.lt
        have hLl : (pre.map Prod.snd).length < 1000000 := by rw [List.length_map]; omega
        have hsn : (pre ++ [x]).map Prod.snd = pre.map Prod.snd ++ [x.2] := by simp
        obtain ⟨xi, f⟩ := x
        dsimp only at *
        by_cases hex : ∃ g ∈ pre.map Prod.snd, g.nm = f.nm
        · obtain ⟨g, hg, hgn⟩ := hex
          have hlk := h2.look_some h1 hg
          rw [hgn] at hlk
          unfold shV at hlk
          have H2 := Lib.hid h2
          have H1 := Lib.hid h1
          have HSN := Lib.hid hsn
          have HG := Lib.hid hg
          have HGN := Lib.hid hgn
          have H3 := Lib.hid h3
          have H4 := Lib.hid h4
          have H5 := Lib.hid h5
          have HR := Lib.hid hr
          have HX := Lib.hid hxb
          have hbW : Below W.heap.size W (W.alloc (Obj.cells #[.int .u64 g.tb, .int .i64 g.sz, .int .u32 g.sm, .int .u64 g.nm] 36)) := bl_alloc (Below.refl _ _) _
          have HBW := Lib.hid hbW
          by_cases hgf : g = f
          · subst hgf
            obtain ⟨w3, hst, hf3, hg3⟩ := (h2.grown (World.grownBy_alloc W (Obj.cells #[.int .u64 g.tb, .int .i64 g.sz, .int .u32 g.sm, .int .u64 g.nm] 36) none) (by simp)).store g hLl
            unfold shV at hst
            have HF3 := Lib.hid hf3
            have HG3 := Lib.hid hg3
            clear h1 h2 h3 h4 h5 hr hxb hsn hg hgn hbW hf3 hg3
            have HV : Hid (noClash ((pre ++ [(xi, g)]).map Prod.snd)) := Lib.hid (by rw [HSN.out]; exact noClash_snoc.2 ⟨H1.out, fun g' hg' e => H1.out g' hg' g HG.out e⟩)
            rw [← HSN.out] at HF3
            gi_wp2
            exact ⟨KeepsFrom.trans ((KeepsOthers.alloc _ _).from _) (KeepsFrom.of_grownBy HG3.out (fun j e => by cases e; omega)), ((Below.refl _ W).alloc hsW _).grown HG3.out (by simp; omega) (fun k e => by cases e; omega),
              ⟨⟨⟨⟨HV.out, HF3.out⟩, (H3.out.alloc _).kept HG3.out (by simp)⟩, (H4.out.alloc _).kept HG3.out (by simp; omega)⟩, (H5.out.alloc hsW _).grown HG3.out (by simp; omega) (fun k e => by cases e; omega)⟩⟩
          · have HV : Hid (¬ noClash ((pre ++ [(xi, f)]).map Prod.snd)) := Lib.hid (by rw [HSN.out]; exact fun h => hgf ((noClash_snoc.1 h).2 g hg hgn))
            have cR := h4.cell
            have fR := h4.frozen
            have hpr := sh_parts hgf hgn
            clear h1 h2 h3 h4 h5 hr hxb hsn hbW hgf HX HBW HG HGN hg
            obtain ⟨gt, gs, gm, gn, g5, g6, g7, g8⟩ := g
            obtain ⟨ft, fs, fm, fn, f5, f6, f7, f8⟩ := f
            dsimp only at *
            subst hgn
            rcases hpr with hne | ⟨rfl, hne⟩ | ⟨rfl, rfl, hne⟩
            · gi_wp2
              exact ⟨KeepsFrom.trans ((KeepsOthers.setCell _ _ _).from _) ((KeepsOthers.alloc _ _).from _), ⟨⟨⟨rfl, HV.out⟩, (H4.out.set _).alloc _⟩, (H5.out.setCell (p := ⟨w.heap.size, 0, none⟩) (Nat.le_refl _) _).alloc (by simpa [World.setCell] using hsW) _⟩⟩
            · gi_wp2
              exact ⟨KeepsFrom.trans ((KeepsOthers.setCell _ _ _).from _) ((KeepsOthers.alloc _ _).from _), ⟨⟨⟨rfl, HV.out⟩, (H4.out.set _).alloc _⟩, (H5.out.setCell (p := ⟨w.heap.size, 0, none⟩) (Nat.le_refl _) _).alloc (by simpa [World.setCell] using hsW) _⟩⟩
            · gi_wp2
              exact ⟨KeepsFrom.trans ((KeepsOthers.setCell _ _ _).from _) ((KeepsOthers.alloc _ _).from _), ⟨⟨⟨rfl, HV.out⟩, (H4.out.set _).alloc _⟩, (H5.out.setCell (p := ⟨w.heap.size, 0, none⟩) (Nat.le_refl _) _).alloc (by simpa [World.setCell] using hsW) _⟩⟩
        · have hno : ∀ g ∈ pre.map Prod.snd, g.nm ≠ f.nm := fun g hg e => hex ⟨g, hg, e⟩
          have hlk : (Instr.lookup 61 (.map (some wr.heap.size)) (.int .u64 f.nm) true).run Try.prog W = .ok (.tuple #[.agg #[.int .u64 0, .int .i64 0, .int .u32 0, .int .u64 0], .bool false]) W := h2.look_none f.wn hno
          obtain ⟨w3, hst, hf3, hg3⟩ := (h2.grown (World.grownBy_alloc W (Obj.cells #[.int .u64 0, .int .i64 0, .int .u32 0, .int .u64 0] 36) none) (by simp)).store f hLl
          unfold shV at hst
          have HF3 := Lib.hid hf3
          have HG3 := Lib.hid hg3
          have HV : Hid (noClash ((pre ++ [(xi, f)]).map Prod.snd)) := Lib.hid (by rw [hsn]; exact noClash_snoc.2 ⟨h1, fun g' hg' e => absurd e (hno g' hg')⟩)
          rw [← hsn] at HF3
          have H3 := Lib.hid h3
          have H4 := Lib.hid h4
          have H5 := Lib.hid h5
          clear h1 h2 h3 h4 h5 hr hxb hsn hno hex hf3 hg3
          gi_wp2
          exact ⟨KeepsFrom.trans ((KeepsOthers.alloc _ _).from _) (KeepsFrom.of_grownBy HG3.out (fun j e => by cases e; omega)), ((Below.refl _ W).alloc hsW _).grown HG3.out (by simp; omega) (fun k e => by cases e; omega),
            ⟨⟨⟨⟨HV.out, HF3.out⟩, (H3.out.alloc _).kept HG3.out (by simp)⟩, (H4.out.alloc _).kept HG3.out (by simp; omega)⟩, (H5.out.alloc hsW _).grown HG3.out (by simp; omega) (fun k e => by cases e; omega)⟩⟩
      case done =>
        rintro D ys W hD rfl ⟨⟨⟨⟨h1, h2⟩, h3⟩, h4⟩, h5⟩ hK
        have HU : Hid (rightB l = true) := Lib.hid (rightB_t ⟨by omega, hOKl.1, hOKl.2, h1⟩)
        have cR := h4.cell
        have fR := h4.frozen
        have H4 := Lib.hid h4
        have H5 := Lib.hid h5
        have HK := Lib.hid hK
        clear h1 h2 h3 h4 h5 hK
        go_wp2_with (fail)
        have hK' := (KeepsOthers.setCell W ⟨w.heap.size, 0, none⟩ (.bool true)).same D _ HK.out rfl
        refine ⟨by simp, .inl ⟨_, _, rfl, run_takeDeferred hK', ?_⟩⟩
        have hc5 := cell_kept (H4.out.set (.bool true)).cell (grownBy_putObj' _ D (.deferred none)) (fun r e => by cases e; exact ⟨_, hK', rfl⟩)
        refine ⟨.bool true, ?_, by rw [HU.out], (H5.out.setCell (p := ⟨w.heap.size, 0, none⟩) (Nat.le_refl _) _).trans (belowK_b (w := WL) (by omega) _ D _ _ hD hK' rfl rfl)⟩
        simp [results, Try.f16, go_sem, hc5]
      case stop =>
        rintro D cd pre W hD hpre ⟨⟨⟨rfl, h1⟩, h4⟩, h5⟩ hK
        have HU : Hid (rightB l = false) := Lib.hid (rightB_f (fun h => h1 (fun f hf g hg e => h.2.2.2 f ((hpre.map _).subset hf) g ((hpre.map _).subset hg) e)))
        have H4 := Lib.hid h4
        have H5 := Lib.hid h5
        have HK := Lib.hid hK
        have hc4 := h4
        have hK4 := hK
        clear h1 h4 h5 hK
        gi_wp2
        refine ⟨by simp, .inl ⟨_, _, rfl, run_takeDeferred HK.out, ?_⟩⟩
        have hc5 := cell_kept H4.out.cell (grownBy_putObj' _ D (.deferred none)) (fun r e => by cases e; exact ⟨_, HK.out, rfl⟩)
        refine ⟨.bool false, ?_, by rw [HU.out], H5.out.trans (belowK_b (w := WL) (by omega) W D _ _ hD HK.out rfl rfl)⟩
        simp [results, Try.f16, go_sem, hc5]
end Go.Proofs.Ytmalcekbhnkfgaa
