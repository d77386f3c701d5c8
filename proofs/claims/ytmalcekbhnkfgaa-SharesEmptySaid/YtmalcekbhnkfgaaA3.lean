/- Contract of the iterator over the files. Conditions: as each theorem states them. -/
import Derived.Test.YtmalcekbhnkfgaaA2
namespace Go.Proofs.Ytmalcekbhnkfgaa
open Go.RowKit Go.Maps Go.Shelf
set_option linter.unusedVariables false
set_option linter.unusedSimpArgs false
attribute [local go_sem] Oper.semAt_some

def encN (x : Nat × Sh) : Array Value := #[.int .i64 (x.1 : Int), shV x.2]
set_option maxRecDepth 100000 in
set_option maxHeartbeats 4000000 in
theorem files1_in (F : Fence) (n : Nat) (h44 : F.fn 44) (hro : F.round = none) (hn : 1 ≤ n) (ly Bs n₀ : Nat) (A : Option Addr) (len cap : Nat) (ps : List Pt) (hlen : ps.length = len) (hcap : len ≤ 1000000) (hfs : ∀ p ∈ ps, p.fs.length ≤ 1000000)
    (J Jx : List (Nat × Sh) → World → Prop) (B0 : Nat) (hJ : AbidesFrom B0 J)
    (hY : ∀ pre x W, J pre W → pre.length < (flat 0 ps).length → YieldAt F (n - 1) Try.prog ly (encN x) W fun e W' => (e = .returned (.bool true) ∧ J (pre ++ [x]) W' ∧ Below n₀ W W') ∨ (e = .returned (.bool false) ∧ Jx (pre ++ [x]) W'))
    (W : World) (hn₀ : n₀ ≤ W.heap.size) (hBs : W.cell? ⟨Bs, 0, none⟩ = some (.slice A len cap)) (hP : RdP W n₀ A ps) (h0 : J [] W) :
    CallsIn F n Try.prog 44 #[.func (.yield ly) #[] #[], .pointer (some ⟨Bs, 0, none⟩)] W fun e W' => (∃ v, e = .returned v) ∧
      ((∃ ys, ys = flat 0 ps ∧ J ys W') ∨ (∃ pre, pre <+: flat 0 ps ∧ Jx pre W')) := by
  have HP := Lib.hid hP
  have HLN := Lib.hid hlen
  have HFS := Lib.hid hfs
  have HJ := Lib.hid hJ
  clear hP hlen hfs hJ
  refine callsIn_of_wp Try.func44 rfl h44 ?_ hro
  simp only [Try.ntmps44, List.size_toArray, List.length_cons, List.length_nil, Nat.reduceAdd, Nat.reduceSub, Array.replicate_succ, Array.replicate_zero, List.push_toArray, List.append_toArray, List.nil_append, List.cons_append]
  gi_wp2
  gi_loopw [9] (fun vi wr => ∃ i : Nat, i ≤ len ∧ vi = .int .i64 i ∧ J (came ps i 0) wr ∧ Below n₀ W wr) (fun i _ => len - (intOf i).toNat)
  case atStart => exact ⟨0, Nat.zero_le _, rfl, by rw [came_zero]; exact h0, Below.refl _ _⟩
  case round =>
    obtain ⟨i, hil, rfl, hJs, hbl⟩ := hrel
    by_cases hi : i < len
    · have hip : i < ps.length := by rw [HLN.out]; exact hi
      have hi0 : (0 : Int) ≤ (i : Int) := by omega
      have hi1 : (i : Int) < (len : Int) := by omega
      obtain ⟨b, off, rfl, hb, _, hc⟩ := HP.out.1 (by omega)
      obtain ⟨a0, a1⟩ := hc i hip
      have hpm := getP_mem hip
      obtain ⟨hfr, hfc⟩ := HP.out.2 _ hpm
      have hfn := HFS.out _ hpm
      obtain ⟨p, hp⟩ : ∃ p, ps.getD i zeroP = p := ⟨_, rfl⟩
      rw [hp] at a0 a1 hfr hfc hfn
      have hws := hbl.size
      have hbw : b < wr.heap.size := by omega
      have a0 := (hbl.cell (p := ⟨b, off + i * 2, none⟩) hb).trans a0
      have a1 := (hbl.cell (p := ⟨b, off + i * 2 + 1, none⟩) hb).trans a1
      have HPE := Lib.hid hp
      have HIP := Lib.hid hip
      have HFR := Lib.hid hfr
      have HBL := Lib.hid hbl
      have HJS := Lib.hid hJs
      clear hc hpm hp hip hfr hbl hJs
      obtain ⟨pid, pfs, pA, pc⟩ := p
      dsimp only at *
      obtain ⟨m, hm⟩ : ∃ m, pfs.length = m := ⟨_, rfl⟩
      rw [hm] at a1 hfc hfn
      have HM := Lib.hid hm
      clear hm
      gi_wp2
      have hbA : Below n₀ wr (wr.alloc (Obj.cells #[Value.int IntKind.u64 pid, Value.slice pA m pc] 26)) := Below.alloc (Below.refl _ _) (by omega) _
      have hjA : J (came ps i 0) (wr.alloc (Obj.cells #[Value.int IntKind.u64 pid, Value.slice pA m pc] 26)) := HJ.out _ _ _ none HJS.out (World.grownBy_alloc _ _ none) (fun r e => by cases e)
      have hsA : wr.heap.size ≤ (wr.alloc (Obj.cells #[Value.int IntKind.u64 pid, Value.slice pA m pc] 26)).heap.size := by simp
      generalize (wr.alloc (Obj.cells #[Value.int IntKind.u64 pid, Value.slice pA m pc] 26)) = wA at *
      have HBA := Lib.hid (HBL.out.trans hbA)
      have HJA := Lib.hid hjA
      clear hbA hjA
      gi_loopw [17] (fun vk wq => ∃ k : Nat, k ≤ m ∧ vk = .int .i64 k ∧ J (came ps i k) wq ∧ Below n₀ W wq) (fun k _ => m - (intOf k).toNat)
      case atStart => exact ⟨0, Nat.zero_le _, rfl, HJA.out, HBA.out⟩
      case round =>
        obtain ⟨k, hkm, rfl, hJk, hbk⟩ := hrel
        have HJK := Lib.hid hJk
        have HBK := Lib.hid hbk
        have hwk := hbk.size
        clear hJk
        by_cases hk : k < m
        · have hk0 : (0 : Int) ≤ (k : Int) := by omega
          have hk1 : (k : Int) < (m : Int) := by omega
          obtain ⟨bs, offs, rfl, hbs, _, hcs⟩ := HFR.out (by rw [HM.out]; omega)
          obtain ⟨f0, f1, f2, f3⟩ := hcs k (by rw [HM.out]; exact hk)
          have hkp : k < (ps.getD i zeroP).fs.length := by rw [HPE.out]; dsimp only; rw [HM.out]; exact hk
          have hsu := came_succ hkp
          have hlt := came_lt HIP.out hkp
          have hpx := came_prefix (k := k + 1) HIP.out
          rw [HPE.out] at hsu
          dsimp only at hsu
          obtain ⟨f, hf⟩ : ∃ f, pfs.getD k zeroS = f := ⟨_, rfl⟩
          rw [hf] at f0 f1 f2 f3 hsu
          have f0 := (hbk.cell (p := ⟨bs, offs + k * 4, none⟩) hbs).trans f0
          have f1 := (hbk.cell (p := ⟨bs, offs + k * 4 + 1, none⟩) hbs).trans f1
          have f2 := (hbk.cell (p := ⟨bs, offs + k * 4 + 2, none⟩) hbs).trans f2
          have f3 := (hbk.cell (p := ⟨bs, offs + k * 4 + 3, none⟩) hbs).trans f3
          have hbsw : bs < wr.heap.size := by omega
          have HSU := Lib.hid hsu
          have HPX := Lib.hid hpx
          have hbF : Below n₀ wr (wr.alloc (Obj.cells #[.int .u64 f.tb, .int .i64 f.sz, .int .u32 f.sm, .int .u64 f.nm] 36)) := Below.alloc (Below.refl _ _) (by omega) _
          have hjF : J (came ps i k) (wr.alloc (Obj.cells #[.int .u64 f.tb, .int .i64 f.sz, .int .u32 f.sm, .int .u64 f.nm] 36)) := HJ.out _ _ _ none HJK.out (World.grownBy_alloc _ _ none) (fun r e => by cases e)
          obtain ⟨fn, tmps, assign, body, hy, hR⟩ := hY _ (i, f) _ hjF hlt
          have HBF := Lib.hid (HBK.out.trans hbF)
          clear hcs hf hsu hpx hbF hjF hkp hlt hbk
          simp only [encN, shV] at hy
          gi_wp2
          refine hR.mono ?_
          rintro e W3 (⟨rfl, hJ3, hk3⟩ | ⟨rfl, hJx3⟩)
          · have HU : Hid (J (came ps i (k + 1)) W3) := Lib.hid (by rw [HSU.out]; exact hJ3)
            have HV := Lib.hid (HBF.out.trans hk3)
            clear hJ3 hk3 hR hy
            gi_wp2
            go_roundw
            case rel => exact ⟨k + 1, by omega, by first | rfl | (push_cast; rfl) | go_num, HU.out, HV.out⟩
            case measure => simp [intOf]; omega
          · have HU : Hid (Jx (came ps i (k + 1)) W3) := Lib.hid (by rw [HSU.out]; exact hJx3)
            clear hJx3 hR hy
            gi_wp2
            refine bodyPost_ret (results_none rfl _ _ _) rfl ?_
            exact ⟨⟨_, rfl⟩, .inr ⟨_, HPX.out, HU.out⟩⟩
        · obtain rfl : k = m := by omega
          have HU : Hid (J (came ps (i + 1) 0) wr) := Lib.hid (by
            have h := came_next HIP.out
            rw [HPE.out] at h
            dsimp only at h
            rw [HM.out] at h
            rw [← h]
            exact HJK.out)
          clear hbk
          gi_wp2
          go_roundw
          case rel => exact ⟨i + 1, by omega, by first | rfl | (push_cast; rfl) | go_num, HU.out, HBK.out⟩
          case measure => simp [intOf]; omega
    · obtain rfl : i = len := by omega
      have HU : Hid (J (flat 0 ps) wr) := Lib.hid (by have h := hJs; rw [← HLN.out, came_all] at h; exact h)
      clear hJs
      gi_wp2
      go_end0
      exact ⟨⟨_, rfl⟩, .inl ⟨_, rfl, HU.out⟩⟩
theorem files_in (F : Fence) (n : Nat) (h30 : F.fn 30) (hro : F.round = none) (A : Option Addr) (len cap : Nat) (w : World) :
    CallsIn F n Try.prog 30 #[.slice A len cap] w fun e w' => e = .returned (.func (.func 44) #[] #[.pointer (some ⟨w.heap.size, 0, none⟩)]) ∧ w' = w.alloc (.cells #[.slice A len cap] 22) := by
  refine callsIn_of_wp Try.func30 rfl h30 ?_ hro
  simp only [Try.ntmps30, List.size_toArray, List.length_cons, List.length_nil, Nat.reduceAdd, Nat.reduceSub, Array.replicate_succ, Array.replicate_zero, List.push_toArray, List.append_toArray, List.nil_append, List.cons_append]
  gi_wp2
  go_ret
  exact ⟨rfl, rfl⟩
/-- The iterator's contract. -/
theorem files_stops (F : Fence) (n : Nat) (h44 : F.fn 44) (hro : F.round = none) (hn : 1 ≤ n) (Bs n₀ : Nat) (A : Option Addr) (cap : Nat) (ps : List Pt) (hcap : ps.length ≤ 1000000) (hfs : ∀ p ∈ ps, p.fs.length ≤ 1000000) (w : World) (hBs : Bs < w.heap.size) (hn₀ : n₀ ≤ w.heap.size)
    (hc : w.cell? ⟨Bs, 0, none⟩ = some (.slice A ps.length cap)) (hP : RdP w n₀ A ps) :
    SeqStopsK F n Try.prog 44 #[.pointer (some ⟨Bs, 0, none⟩)] encN (Below n₀) (fun ys => ys = flat 0 ps) (fun pre => pre <+: flat 0 ps) (flat 0 ps).length w := fun l J Jx W hW hJ _ hY h0 =>
  files1_in F n h44 hro hn l Bs n₀ A ps.length cap ps rfl hcap hfs J Jx _ hJ hY W (Nat.le_trans hn₀ hW.size) ((hW.cell (p := ⟨Bs, 0, none⟩) hBs).trans hc) (hP.below (hW.mono hn₀)) h0
end Go.Proofs.Ytmalcekbhnkfgaa
