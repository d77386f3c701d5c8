/- Contract of shares.Counts where three numbers are counted, and where none is. Conditions: as each theorem states them. -/
import Derived.Test.YtmalcekbhnkfgaaB5
namespace Go.Proofs.Ytmalcekbhnkfgaa
open Go.RowKit Go.Maps Go.Shelf
set_option linter.unusedVariables false
set_option linter.unusedSimpArgs false

theorem i43 : (Try.prog.info? 43).map (fun i => (i.zero, i.size, i.bytes)) = some (some (.agg #[.int .u64 0, .int .i64 0]), 2, 16) := by kernel_rfl
theorem u39 : Try.prog.underlying 39 = some (.slice 43) := by kernel_rfl
/-- Counts as cells. -/
def cpair (z : Nat → Int) (L : List Int) (i : Nat) : List Value := (List.range i).flatMap (fun j => [.int .u64 (z j), .int .i64 (L.count (z j) : Nat)])
theorem cpair_succ (z : Nat → Int) (L : List Int) (i : Nat) : cpair z L (i + 1) = cpair z L i ++ [.int .u64 (z i), .int .i64 (L.count (z i) : Nat)] := by
  simp [cpair, List.range_succ, List.flatMap_append]
theorem cpair_length (z : Nat → Int) (L : List Int) (i : Nat) : (cpair z L i).length = i * 2 := by
  induction i with
  | zero => rfl
  | succ i ih => rw [cpair_succ, List.length_append, ih]; simp; omega
theorem keysL_cnt {w : World} {b : Nat} {L : List Int} (h : CntAt w b L) : ∃ D, w.ownsMap Try.prog 23 (plainElem Try.prog 3) b L.length D ∧ ∀ ys, KeysL D ys → ys.Nodup ∧ ∀ x : U64, x ∈ ys ↔ x.1 ∈ L := by
  obtain ⟨D, h1, h2⟩ := h
  exact ⟨D, h1, fun ys hy => ⟨hy.1, fun x => by rw [hy.2 x]; exact (h2 x.1 x.2).2⟩⟩
theorem three_keys {ys : List U64} (h1 : ys.Nodup) (h2 : ∀ x : U64, x ∈ ys ↔ x.1 = 7 ∨ x.1 = 8 ∨ x.1 = 9) : (ys.map Subtype.val).Perm [7, 8, 9] := by
  refine (List.perm_ext_iff_of_nodup ?_ (by decide)).2 fun x => ?_
  · exact List.Pairwise.map _ (fun a b h e => h (Subtype.ext e)) h1
  · simp only [List.mem_map, List.mem_cons, List.not_mem_nil, or_false]
    constructor
    · rintro ⟨y, hy, rfl⟩
      exact (h2 y).1 hy
    · intro h
      have hw : (Lit.int .u64 x).wf = true := by rcases h with rfl | rfl | rfl <;> decide
      exact ⟨⟨x, hw⟩, (h2 ⟨x, hw⟩).2 h, rfl⟩
theorem ord_three {z : Nat → Int} (ho : Ord z 3) (hp : ((List.range 3).map z).Perm [7, 8, 9]) : z 0 = 7 ∧ z 1 = 8 ∧ z 2 = 9 := by
  have h01 := ho 0 1 (by omega) (by omega)
  have h12 := ho 1 2 (by omega) (by omega)
  have e : (List.range 3).map z = [z 0, z 1, z 2] := rfl
  rw [e] at hp
  have hs : [z 0, z 1, z 2].Pairwise (· ≤ ·) := by
    simp
    omega
  have h := List.Perm.eq_of_pairwise (le := fun a b : Int => a ≤ b) (fun a b _ _ h1 h2 => Int.le_antisymm h1 h2) hs (by decide) hp
  simpa using h
set_option maxRecDepth 100000 in
set_option maxHeartbeats 4000000 in
theorem counts_three (A : Option Addr) (c : Nat) (l : List Pt) (w : World) (hA : RdP w w.heap.size A l) (hL : ∀ x : U64, x.1 ∈ cntL l ↔ x.1 = 7 ∨ x.1 = 8 ∨ x.1 = 9) (hLl : (cntL l).length ≤ 100) :
    Calls Try.prog 19 #[.slice A l.length c] w fun e w' => ∃ (v : Value) (z : Nat → Int), e = .returned v ∧ (z 0 = 7 ∧ z 1 = 8 ∧ z 2 = 9) ∧ w'.ownsRow w.heap.size 43 2 v 3 (cpair z (cntL l) 3) ∧ Below w.heap.size w w' := by
  obtain ⟨i0, hi, hz0, hz1, hz2⟩ := info_parts i43
  have HC := Lib.hid (counted_any A c l w hA)
  have HL := Lib.hid hL
  have HLl := Lib.hid hLl
  generalize cntL l = L at *
  generalize l.length = n at *
  clear hA hL hLl
  go_enter Try.func19, Try.ntmps19
  go_wp2_with (fail)
  refine HC.out.mono ?_
  rintro e w1 ⟨rfl, hc1, hb1⟩
  have HC1 := Lib.hid hc1
  have HB1 := Lib.hid hb1
  have hs1 := hb1.size
  have hm1 := hc1.lt
  clear hc1 hb1
  go_wp2_with (go_at_call 38; refine (callsIn_wide.1 (keys_in Fence.wide 5 trivial rfl _ _)).mono ?_; rintro e w' ⟨rfl, rfl⟩)
  have hbW : Below w1.heap.size w1 (w1.alloc (Obj.cells #[Value.map (some w.heap.size)] 62)) := bl_alloc (Below.refl _ _) _
  have bM := Boxed.new w1 62 (.map (some w.heap.size))
  have hsW : (w1.alloc (Obj.cells #[Value.map (some w.heap.size)] 62)).heap.size = w1.heap.size + 1 := by simp
  generalize (w1.alloc (Obj.cells #[Value.map (some w.heap.size)] 62)) = w2 at *
  have hc2 := HC1.out.below hbW hm1
  obtain ⟨D, hown, hkey⟩ := keysL_cnt hc2
  have hlen3 : ∀ ys, KeysL D ys → ys.length = 3 := fun ys hy => by
    obtain ⟨k1, k2⟩ := hkey ys hy
    have h := (three_keys k1 (fun x => (k2 x).trans (HL.out x))).length_eq
    simpa using h
  have HS := Lib.hid (sorted_three w1.heap.size w.heap.size L.length D w2 (by omega) bM.cell hown (by have h1 := hown.size_le; have h2 := HLl.out; omega) hlen3)
  have HKY := Lib.hid hkey
  have HC2 := Lib.hid hc2
  have HB2 := Lib.hid (HB1.out.trans (hbW.mono hs1))
  clear bM hown hkey hc2 hbW hlen3
  refine HS.out.mono ?_
  rintro e w3 ⟨g, cap, ys, z, rfl, hky, hcap, hg, hz, hp, ho, hb3⟩
  have hzz : z 0 = 7 ∧ z 1 = 8 ∧ z 2 = 9 := by
    obtain ⟨k1, k2⟩ := HKY.out ys hky
    exact ord_three ho (hp.trans (three_keys k1 (fun x => (k2 x).trans (HL.out x))))
  have hwf : ∀ i, i < 3 → (Lit.int .u64 (z i)).wf = true := fun i hi => by
    obtain ⟨e0, e1, e2⟩ := hzz
    match i, hi with
    | 0, _ => rw [e0]; decide
    | 1, _ => rw [e1]; decide
    | 2, _ => rw [e2]; decide
  have HZ := Lib.hid hz
  have HZZ := Lib.hid hzz
  have HWF := Lib.hid hwf
  have hs3 := hb3.size
  have hgl := hz.1
  have HC3 := Lib.hid (HC2.out.below hb3 (by omega))
  have HB3 := Lib.hid (HB2.out.trans (hb3.mono (by omega)))
  clear hky hz hp ho hb3 hzz hwf
  go_wp2_with (fail)
  go_loopw [4, 13] (fun vo vi wr => ∃ i : Nat, i ≤ 3 ∧ vi = .int .i64 i ∧ wr.ownsRow w3.heap.size 43 2 vo i (cpair z L i) ∧ Below w3.heap.size w3 wr) (fun _ i _ => 3 - (intOf i).toNat)
  case atStart => exact ⟨0, by omega, rfl, ⟨rfl, .inl ⟨rfl, rfl⟩⟩, Below.refl _ _⟩
  case round =>
    obtain ⟨i, hin, rfl, hown, hbl⟩ := hrel
    have HOWN := Lib.hid hown
    have HBL := Lib.hid hbl
    have hws := hbl.size
    have hcn := HC3.out.below hbl (by omega)
    have HCN := Lib.hid hcn
    by_cases hi' : i < 3
    · have hi0 : (0 : Int) ≤ (i : Int) := by omega
      have hi1 : (i : Int) < 3 := by omega
      obtain ⟨a0, _⟩ := HZ.out.2 i hi'
      have a0 := (hbl.cell (p := ⟨g, i, none⟩) hgl).trans a0
      have hgw : g < wr.heap.size := by omega
      have HW := Lib.hid (HWF.out i hi')
      have HSU := Lib.hid (cpair_succ z L i)
      clear hown hbl hcn
      go_wp2_with ((at_lookup; refine Hid.out ?_))
      refine Lib.hid ?_
      refine wpList_look_cnt _ (by rfl) _ _ rfl w.heap.size L HCN.out rfl (z i) HW.out rfl ?_
      go_wp2_with ((at_builtin; refine Hid.out ?_))
      refine Lib.hid ?_
      have hbA : Below wr.heap.size wr (wr.alloc (Obj.cells #[Value.int .u64 (z i), Value.int .i64 (L.count (z i) : Nat)] 43)) := bl_alloc (Below.refl _ _) _
      refine wpList_append_own _ rfl _ _ 39 rfl w3.heap.size 43 i0 (.agg #[.int .u64 0, .int .i64 0]) 2 16 u39 hi hz0 hz1 hz2 rfl (by decide) _ i (cpair z L i) rfl (own_new HOWN.out hbA) ⟨wr.heap.size, 0, none⟩ 1 1 [.int .u64 (z i), .int .i64 (L.count (z i) : Nat)] rfl rfl ?c1 (by simp [Value.oneCell']) (by unfold maxLen; omega) (by omega) (by simp; omega) ?_
      case c1 =>
        intro j u hj
        match j, hj with
        | 0, hj => simp at hj; subst hj; simp [Addr.add]
        | 1, hj => simp at hj; subst hj; simp [Addr.add]
      intro v' w4 hown4 hgrow4 _
      have hb4 : Below w3.heap.size w3 w4 := (HBL.out.trans (hbA.mono hws)).grown hgrow4 (by simp; omega) (own_ge HOWN.out)
      have HO4 : Hid (w4.ownsRow w3.heap.size 43 2 v' (i + 1) (cpair z L (i + 1))) := Lib.hid (by rw [HSU.out]; exact hown4)
      have HB4 := Lib.hid hb4
      clear hown4 hgrow4 hb4 hbA
      go_wp2_with (fail)
      go_roundw
      case rel => exact ⟨i + 1, by omega, by first | rfl | (push_cast; rfl) | go_num, HO4.out, HB4.out⟩
      case measure => simp [intOf]; omega
    · have hine : i = 3 := by omega
      subst hine
      have HO : Hid (wr.ownsRow w.heap.size 43 2 u4 3 (cpair z L 3)) := Lib.hid (own_le HOWN.out (by omega))
      clear hown hbl hcn
      go_wp2_with (fail)
      go_ret
      exact ⟨_, z, rfl, HZZ.out, HO.out, HB3.out.trans (HBL.out.mono (by omega))⟩
end Go.Proofs.Ytmalcekbhnkfgaa
