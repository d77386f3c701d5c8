/- Contract of the reference's Known. Conditions: as each theorem states them. -/
import Derived.Test.YtmalcekbhnkfgaaK1
import Derived.Test.YtmalcekbhnkfgaaA8
namespace Go.Proofs.Ytmalcekbhnkfgaa
open Go.RowKit Go.Maps Go.Shelf
set_option linter.unusedVariables false
set_option linter.unusedSimpArgs false

theorem kn_app_no (t s m : Int) (L M : List Sh) (h : ∀ f ∈ M, ¬ isK t s m f) : kn t s m (L ++ M) = kn t s m L := by
  induction M generalizing L with
  | nil => rw [List.append_nil]
  | cons f M ih =>
    have e : L ++ f :: M = (L ++ [f]) ++ M := by simp
    rw [e, ih _ (fun g hg => h g (List.mem_cons_of_mem _ hg)), kn_no (h f (List.mem_cons_self ..))]
/-- The first of a point's files that is asked for is the only one. -/
theorem kn_hit {t s m : Int} {L fs : List Sh} (hok : okFs fs) {k : Nat} (hk : k < fs.length) (hf : isK t s m (fs.getD k zeroS)) : kn t s m (L ++ fs) = (fs.getD k zeroS, true) := by
  have hg : fs.getD k zeroS = fs[k] := by rw [List.getD_eq_getElem?_getD, List.getElem?_eq_getElem hk]; rfl
  have e : fs = fs.take k ++ (fs.getD k zeroS :: fs.drop (k + 1)) := by rw [hg, List.getElem_cons_drop, List.take_append_drop]
  have hno : ∀ f ∈ fs.drop (k + 1), ¬ isK t s m f := fun f hm hK => by
    have hnd := hok.2.1
    rw [e, List.map_append, List.map_cons, List.nodup_append] at hnd
    have h2 := (List.nodup_cons.1 hnd.2.1).1
    exact h2 (List.mem_map.2 ⟨f, hm, by rw [hK.1, hf.1]⟩)
  have e2 : L ++ fs = ((L ++ fs.take k) ++ [fs.getD k zeroS]) ++ fs.drop (k + 1) := by
    conv => lhs; rw [e]
    simp
  rw [e2, kn_app_no t s m _ _ hno, kn_yes hf]
theorem allF_take {l : List Pt} {i : Nat} (hi : i < l.length) : allF (l.take (i + 1)) = allF (l.take i) ++ (l.getD i zeroP).fs := by rw [take_snocP hi, allF_snoc]
set_option maxRecDepth 100000 in
set_option maxHeartbeats 8000000 in
theorem rknown_right (A : Option Addr) (n c : Nat) (l : List Pt) (t s m : Int) (w : World) (hl : l.length = n) (hA : RdP w w.heap.size A l) (hr : RightP l) :
    Calls Try.prog 23 #[.slice A n c, .int .u64 t, .int .i64 s, .int .u32 m] w fun e w' => e = .returned (.tuple #[shV (kn t s m (allF l)).1, .bool (kn t s m (allF l)).2]) ∧ Below w.heap.size w w' := by
  have HL := Lib.hid hl
  have HA := Lib.hid hA
  have HRP := Lib.hid hr
  have HR := Lib.hid (fun (w' : World) (h : Below w.heap.size w w') => rright_any A c l w' ((hA.below h).more h.size (Nat.le_refl _)))
  rw [hl, rightB_t hr] at HR
  have hn16 : n ≤ 16 := by rw [← hl]; exact hr.1
  clear hl hA hr
  go_enter Try.func23, Try.ntmps23
  go_wp2_with (fail)
  go_loopw [10] (fun vi wr => ∃ j : Nat, j ≤ n ∧ vi = .int .i64 ((j : Int) - 1) ∧ kn t s m (allF l) = kn t s m (allF (l.take j)) ∧ BoxS wr w.heap.size zeroS ∧ Below w.heap.size w wr) (fun i _ => (intOf i + 1).toNat)
  case atStart => exact ⟨n, Nat.le_refl _, rfl, by rw [List.take_of_length_le (by rw [HL.out]; exact Nat.le_refl _)], BoxS.new w zeroS, bl_alloc (Below.refl _ _) _⟩
  case round =>
    obtain ⟨j, hj, rfl, hkn, hbx, hbl⟩ := hrel
    have HKN := Lib.hid hkn
    have HBX := Lib.hid hbx
    have HBL := Lib.hid hbl
    have hws := hbl.size
    have hxl := hbx.lt
    clear hkn hbx hbl
    by_cases hj0 : 0 < j
    · obtain ⟨i, rfl⟩ : ∃ i, j = i + 1 := ⟨j - 1, by omega⟩
      have hii : (((i + 1 : Nat) : Int)) - 1 = (i : Int) := by omega
      rw [hii]
      have hi0 : (0 : Int) ≤ (i : Int) := by omega
      have hi1 : (i : Int) < (n : Int) := by omega
      have hi : i < n := by omega
      clear hii
      obtain ⟨pb, po, rfl, hpb, _, hpc⟩ := HA.out.1 (by rw [HL.out]; omega)
      obtain ⟨_, a1⟩ := hpc i (by rw [HL.out]; exact hi)
      obtain ⟨p, hp⟩ : ∃ p, l.getD i zeroP = p := ⟨_, rfl⟩
      rw [hp] at a1
      have HPF := Lib.hid ((HA.out.2 p (by rw [← hp]; exact getP_mem (by rw [HL.out]; exact hi))).1)
      have hpm := HRP.out.2.1 p (by rw [← hp]; exact getP_mem (by rw [HL.out]; exact hi))
      have hpl : p.fs.length ≤ 256 := hpm.2.1
      have HOK := Lib.hid hpm.2.2
      have HTK := Lib.hid (allF_take (l := l) (i := i) (by rw [HL.out]; exact hi))
      rw [hp] at HTK
      obtain ⟨pid, pfs, pA, pc⟩ := p
      dsimp only at a1 HPF hpl HOK HTK
      have A1 := Lib.hid a1
      obtain ⟨fl, hfl⟩ : ∃ fl, pfs.length = fl := ⟨_, rfl⟩
      have HM := Lib.hid hfl
      rw [hfl] at a1 hpl A1
      have a1 := (HBL.out.cell (p := ⟨pb, po + i * 2 + 1, none⟩) hpb).trans a1
      have hpw : pb < wr.heap.size := by omega
      clear hp hpc hpm hfl
      go_wp2_with ((go_at_call 17; refine Hid.out ?_))
      refine Lib.hid ?_
      refine (HR.out wr HBL.out).mono ?_
      rintro e w5 ⟨rfl, hb5⟩
      have a1 := (hb5.cell (p := ⟨pb, po + i * 2 + 1, none⟩) hpw).trans a1
      have HB5 := Lib.hid (HBL.out.trans (hb5.mono hws))
      have HX5 : Hid (BoxS w5 w.heap.size zeroS) := Lib.hid (HBX.out.kw hb5 hxl)
      have hz5 := hb5.size
      clear hb5
      go_wp2_with (fail)
      go_loopw [11] (fun vk wr => ∃ k : Nat, k ≤ fl ∧ vk = .int .i64 k ∧ (∀ q, q < k → ¬ isK t s m (pfs.getD q zeroS)) ∧ BoxS wr w.heap.size zeroS ∧ Below w.heap.size w wr) (fun k _ => fl - (intOf k).toNat)
      case atStart => exact ⟨0, Nat.zero_le _, rfl, fun q hq => by omega, HX5.out, HB5.out⟩
      case round =>
        obtain ⟨k, hk, rfl, hno, hbx2, hbl2⟩ := hrel
        have HNO := Lib.hid hno
        have HX := Lib.hid hbx2
        have HB := Lib.hid hbl2
        have hw2 := hbl2.size
        have hx2 := hbx2.lt
        have a1 := (hbl2.cell (p := ⟨pb, po + i * 2 + 1, none⟩) hpb).trans A1.out
        have hpw2 : pb < wr.heap.size := by omega
        clear hno hbx2 hbl2
        by_cases hkl : k < fl
        · have hk0 : (0 : Int) ≤ (k : Int) := by omega
          have hk1 : (k : Int) < (fl : Int) := by omega
          obtain ⟨fb, fo, rfl, hfb, _, hfc⟩ := HPF.out (by rw [HM.out]; omega)
          obtain ⟨b0, b1, b2, b3⟩ := hfc k (by rw [HM.out]; exact hkl)
          obtain ⟨f, hf⟩ : ∃ f, pfs.getD k zeroS = f := ⟨_, rfl⟩
          rw [hf] at b0 b1 b2 b3
          have HF := Lib.hid hf
          have b0 := (HB.out.cell (p := ⟨fb, fo + k * 4, none⟩) hfb).trans b0
          have b1 := (HB.out.cell (p := ⟨fb, fo + k * 4 + 1, none⟩) hfb).trans b1
          have b2 := (HB.out.cell (p := ⟨fb, fo + k * 4 + 2, none⟩) hfb).trans b2
          have b3 := (HB.out.cell (p := ⟨fb, fo + k * 4 + 3, none⟩) hfb).trans b3
          have hfw : fb < wr.heap.size := by omega
          clear hfc hf
          obtain ⟨ft, fz, fs, fn, y0, y1, y2, y3⟩ := f
          dsimp only at b0 b1 b2 b3
          by_cases h1 : ft = t
          · rw [h1] at b0
            by_cases h2 : fz = s
            · rw [h2] at b1
              by_cases h3 : fs = m
              · rw [h3] at b2
                have HKN2 : Hid (kn t s m (allF l) = (⟨ft, fz, fs, fn, y0, y1, y2, y3⟩, true)) := Lib.hid (by
                  rw [HKN.out, HTK.out, ← HF.out]
                  exact kn_hit HOK.out (by rw [HM.out]; exact hkl) (by rw [HF.out]; exact ⟨h1, h2, h3⟩))
                have HXA : Hid (BoxS (wr.alloc (Obj.cells #[.int .u64 t, .int .i64 s, .int .u32 m, .int .u64 fn] 36)) w.heap.size zeroS) := Lib.hid (HX.out.kw (bl_alloc (Below.refl _ _) _) hx2)
                have HBA : Hid (Below w.heap.size w (wr.alloc (Obj.cells #[.int .u64 t, .int .i64 s, .int .u32 m, .int .u64 fn] 36))) := Lib.hid (HB.out.trans (bl_alloc (Below.refl _ _) _ |>.mono hw2))
                obtain ⟨d0, d1, d2, d3⟩ := HX.out.cells
                obtain ⟨g0, g1, g2, g3⟩ := HX.out.frozens
                unfold zeroS at d0 d1 d2 d3
                dsimp only at d0 d1 d2 d3
                go_wp2_with (fail)
                have hS : ((((wr.setCell ⟨w.heap.size, 0, none⟩ (.int .u64 t)).setCell ⟨w.heap.size, 1, none⟩ (.int .i64 s)).setCell ⟨w.heap.size, 2, none⟩ (.int .u32 m)).setCell ⟨w.heap.size, 3, none⟩ (.int .u64 fn)).heap[w.heap.size]? = some (Obj.cells #[.int .u64 t, .int .i64 s, .int .u32 m, .int .u64 fn] 36) := set_heap (set_heap (set_heap (set_heap HX.out)))
                have hSb : Below w.heap.size w ((((wr.setCell ⟨w.heap.size, 0, none⟩ (.int .u64 t)).setCell ⟨w.heap.size, 1, none⟩ (.int .i64 s)).setCell ⟨w.heap.size, 2, none⟩ (.int .u32 m)).setCell ⟨w.heap.size, 3, none⟩ (.int .u64 fn)) := (((HB.out.setCell (by dsimp only; omega) _).setCell (by dsimp only; omega) _).setCell (by dsimp only; omega) _).setCell (by dsimp only; omega) _
                generalize ((((wr.setCell ⟨w.heap.size, 0, none⟩ (.int .u64 t)).setCell ⟨w.heap.size, 1, none⟩ (.int .i64 s)).setCell ⟨w.heap.size, 2, none⟩ (.int .u32 m)).setCell ⟨w.heap.size, 3, none⟩ (.int .u64 fn)) = WS at *
                have hb4 : (WS.alloc (Obj.cells #[.int .u64 t, .int .i64 s, .int .u32 m, .int .u64 fn] 36)).heap[w.heap.size]? = some (Obj.cells #[.int .u64 t, .int .i64 s, .int .u32 m, .int .u64 fn] 36) := ((bl_alloc (Below.refl WS.heap.size WS) (Obj.cells #[.int .u64 t, .int .i64 s, .int .u32 m, .int .u64 fn] 36)).block w.heap.size (Array.getElem?_eq_some_iff.1 hS).1).trans hS
                have hbb : Below w.heap.size w (WS.alloc (Obj.cells #[.int .u64 t, .int .i64 s, .int .u32 m, .int .u64 fn] 36)) := bl_alloc hSb _
                generalize (WS.alloc (Obj.cells #[.int .u64 t, .int .i64 s, .int .u32 m, .int .u64 fn] 36)) = W5 at *
                have z0 : W5.cell? ⟨w.heap.size, 0, none⟩ = some (.int .u64 t) := by simp [World.cell?, hb4]
                have z1 : W5.cell? ⟨w.heap.size, 1, none⟩ = some (.int .i64 s) := by simp [World.cell?, hb4]
                have z2 : W5.cell? ⟨w.heap.size, 2, none⟩ = some (.int .u32 m) := by simp [World.cell?, hb4]
                have z3 : W5.cell? ⟨w.heap.size, 3, none⟩ = some (.int .u64 fn) := by simp [World.cell?, hb4]
                rw [HKN2.out]
                refine bodyPost_ret (v := .tuple #[shV ⟨ft, fz, fs, fn, y0, y1, y2, y3⟩, .bool true]) (by simp [results, Try.f23, go_sem, z0, z1, z2, z3, shV, h1, h2, h3]) rfl ⟨rfl, hbb⟩
              · have HN1 : Hid (∀ q, q < k + 1 → ¬ isK t s m (pfs.getD q zeroS)) := Lib.hid (fun q hq => by
                  rcases Nat.lt_or_ge q k with h | h
                  · exact HNO.out q h
                  · obtain rfl : q = k := by omega
                    rw [HF.out]
                    exact fun hK => h3 hK.2.2)
                have HXA : Hid (BoxS (wr.alloc (Obj.cells #[.int .u64 t, .int .i64 s, .int .u32 fs, .int .u64 fn] 36)) w.heap.size zeroS) := Lib.hid (HX.out.kw (bl_alloc (Below.refl _ _) _) hx2)
                have HBA : Hid (Below w.heap.size w (wr.alloc (Obj.cells #[.int .u64 t, .int .i64 s, .int .u32 fs, .int .u64 fn] 36))) := Lib.hid (HB.out.trans (bl_alloc (Below.refl _ _) _ |>.mono hw2))
                go_wp2_with (fail)
                go_roundw
                case rel => exact ⟨k + 1, by omega, by first | rfl | (push_cast; rfl) | go_num, HN1.out, HXA.out, HBA.out⟩
                case measure => simp [intOf]; omega
            · have HN1 : Hid (∀ q, q < k + 1 → ¬ isK t s m (pfs.getD q zeroS)) := Lib.hid (fun q hq => by
                rcases Nat.lt_or_ge q k with h | h
                · exact HNO.out q h
                · obtain rfl : q = k := by omega
                  rw [HF.out]
                  exact fun hK => h2 hK.2.1)
              have HXA : Hid (BoxS (wr.alloc (Obj.cells #[.int .u64 t, .int .i64 fz, .int .u32 fs, .int .u64 fn] 36)) w.heap.size zeroS) := Lib.hid (HX.out.kw (bl_alloc (Below.refl _ _) _) hx2)
              have HBA : Hid (Below w.heap.size w (wr.alloc (Obj.cells #[.int .u64 t, .int .i64 fz, .int .u32 fs, .int .u64 fn] 36))) := Lib.hid (HB.out.trans (bl_alloc (Below.refl _ _) _ |>.mono hw2))
              go_wp2_with (fail)
              go_roundw
              case rel => exact ⟨k + 1, by omega, by first | rfl | (push_cast; rfl) | go_num, HN1.out, HXA.out, HBA.out⟩
              case measure => simp [intOf]; omega
          · have HN1 : Hid (∀ q, q < k + 1 → ¬ isK t s m (pfs.getD q zeroS)) := Lib.hid (fun q hq => by
              rcases Nat.lt_or_ge q k with h | h
              · exact HNO.out q h
              · obtain rfl : q = k := by omega
                rw [HF.out]
                exact fun hK => h1 hK.1)
            have HXA : Hid (BoxS (wr.alloc (Obj.cells #[.int .u64 ft, .int .i64 fz, .int .u32 fs, .int .u64 fn] 36)) w.heap.size zeroS) := Lib.hid (HX.out.kw (bl_alloc (Below.refl _ _) _) hx2)
            have HBA : Hid (Below w.heap.size w (wr.alloc (Obj.cells #[.int .u64 ft, .int .i64 fz, .int .u32 fs, .int .u64 fn] 36))) := Lib.hid (HB.out.trans (bl_alloc (Below.refl _ _) _ |>.mono hw2))
            go_wp2_with (fail)
            go_roundw
            case rel => exact ⟨k + 1, by omega, by first | rfl | (push_cast; rfl) | go_num, HN1.out, HXA.out, HBA.out⟩
            case measure => simp [intOf]; omega
        · obtain rfl : fl = k := by omega
          have HKE : Hid (kn t s m (allF l) = kn t s m (allF (l.take i))) := Lib.hid (by
            rw [HKN.out, HTK.out]
            refine kn_app_no t s m _ _ (fun f hf => ?_)
            obtain ⟨q, hq, rfl⟩ := List.mem_iff_getElem.1 hf
            have h := HNO.out q (by rw [← HM.out]; exact hq)
            rwa [List.getD_eq_getElem?_getD, List.getElem?_eq_getElem hq] at h)
          go_wp2_with (fail)
          go_roundw
          case rel => exact ⟨i, by omega, by first | rfl | (push_cast; rfl) | go_num, HKE.out, HX.out, HB.out⟩
          case measure => simp [intOf]
    · obtain rfl : j = 0 := by omega
      obtain ⟨d0, d1, d2, d3⟩ := HBX.out.cells
      obtain ⟨g0, g1, g2, g3⟩ := HBX.out.frozens
      unfold zeroS at d0 d1 d2 d3
      dsimp only at d0 d1 d2 d3
      go_wp2_with (fail)
      have hb4 := BoxS.set4 HBX.out zeroS
      have hbb : Below w.heap.size w ((((wr.setCell ⟨w.heap.size, 0, none⟩ (.int .u64 0)).setCell ⟨w.heap.size, 1, none⟩ (.int .i64 0)).setCell ⟨w.heap.size, 2, none⟩ (.int .u32 0)).setCell ⟨w.heap.size, 3, none⟩ (.int .u64 0)) := (((HBL.out.setCell (by dsimp only; omega) _).setCell (by dsimp only; omega) _).setCell (by dsimp only; omega) _).setCell (by dsimp only; omega) _
      unfold zeroS at hb4
      dsimp only at hb4
      generalize ((((wr.setCell ⟨w.heap.size, 0, none⟩ (.int .u64 0)).setCell ⟨w.heap.size, 1, none⟩ (.int .i64 0)).setCell ⟨w.heap.size, 2, none⟩ (.int .u32 0)).setCell ⟨w.heap.size, 3, none⟩ (.int .u64 0)) = W5 at *
      obtain ⟨z0, z1, z2, z3⟩ := hb4.cells
      dsimp only at z0 z1 z2 z3
      have hk0 : kn t s m (allF l) = (zeroS, false) := HKN.out
      rw [hk0]
      refine bodyPost_ret (v := .tuple #[shV zeroS, .bool false]) (by simp [results, Try.f23, go_sem, z0, z1, z2, z3, shV, zeroS]) rfl ⟨rfl, hbb⟩
set_option maxRecDepth 100000 in
set_option maxHeartbeats 8000000 in
theorem rknown_wrong (A : Option Addr) (n c : Nat) (l : List Pt) (t s m : Int) (w : World) (hl : l.length = n) (hA : RdP w w.heap.size A l) (hr : ¬ RightP l) (hn : n ≤ 1000000) :
    Calls Try.prog 23 #[.slice A n c, .int .u64 t, .int .i64 s, .int .u32 m] w fun e w' => e = .returned (.tuple #[shV zeroS, .bool false]) ∧ Below w.heap.size w w' := by
  have HR := Lib.hid (fun (w' : World) (h : Below w.heap.size w w') => rright_any A c l w' ((hA.below h).more h.size (Nat.le_refl _)))
  rw [hl, rightB_f hr] at HR
  clear hl hA hr
  go_enter Try.func23, Try.ntmps23
  go_wp2_with (fail)
  have HBX : Hid (BoxS (w.alloc (Obj.cells #[.int .u64 0, .int .i64 0, .int .u32 0, .int .u64 0] 36)) w.heap.size zeroS) := Lib.hid (BoxS.new w zeroS)
  have HBL : Hid (Below w.heap.size w (w.alloc (Obj.cells #[.int .u64 0, .int .i64 0, .int .u32 0, .int .u64 0] 36))) := Lib.hid (bl_alloc (Below.refl _ _) _)
  generalize (w.alloc (Obj.cells #[.int .u64 0, .int .i64 0, .int .u32 0, .int .u64 0] 36)) = wa at *
  go_loopw [10] (fun vi wr => vi = .int .i64 ((n : Int) - 1) ∧ wr = wa) (fun i _ => 0)
  case atStart => exact ⟨rfl, rfl⟩
  case round =>
    obtain ⟨rfl, rfl⟩ := hrel
    have hws := HBL.out.size
    have hxl := HBX.out.lt
    by_cases hn0 : 0 < n
    · have hn1 : (0 : Int) ≤ (n : Int) - 1 := by omega
      go_wp2_with ((go_at_call 17; refine Hid.out ?_))
      refine Lib.hid ?_
      refine (HR.out wr HBL.out).mono ?_
      rintro e w5 ⟨rfl, hb5⟩
      have HX5 : Hid (BoxS w5 w.heap.size zeroS) := Lib.hid (HBX.out.kw hb5 hxl)
      have HB5 := Lib.hid (HBL.out.trans (hb5.mono hws))
      have hz5 := hb5.size
      clear hb5
      obtain ⟨d0, d1, d2, d3⟩ := HX5.out.cells
      obtain ⟨g0, g1, g2, g3⟩ := HX5.out.frozens
      unfold zeroS at d0 d1 d2 d3
      dsimp only at d0 d1 d2 d3
      go_wp2_with (fail)
      have hb4 := BoxS.set4 HX5.out zeroS
      have hbb : Below w.heap.size w ((((w5.setCell ⟨w.heap.size, 0, none⟩ (.int .u64 0)).setCell ⟨w.heap.size, 1, none⟩ (.int .i64 0)).setCell ⟨w.heap.size, 2, none⟩ (.int .u32 0)).setCell ⟨w.heap.size, 3, none⟩ (.int .u64 0)) := (((HB5.out.setCell (by dsimp only; omega) _).setCell (by dsimp only; omega) _).setCell (by dsimp only; omega) _).setCell (by dsimp only; omega) _
      unfold zeroS at hb4
      dsimp only at hb4
      generalize ((((w5.setCell ⟨w.heap.size, 0, none⟩ (.int .u64 0)).setCell ⟨w.heap.size, 1, none⟩ (.int .i64 0)).setCell ⟨w.heap.size, 2, none⟩ (.int .u32 0)).setCell ⟨w.heap.size, 3, none⟩ (.int .u64 0)) = W5 at *
      obtain ⟨z0, z1, z2, z3⟩ := hb4.cells
      dsimp only at z0 z1 z2 z3
      refine bodyPost_ret (v := .tuple #[shV zeroS, .bool false]) (by simp [results, Try.f23, go_sem, z0, z1, z2, z3, shV, zeroS]) rfl ⟨rfl, hbb⟩
    · have hn1 : ¬ (0 : Int) ≤ (n : Int) - 1 := by omega
      obtain ⟨d0, d1, d2, d3⟩ := HBX.out.cells
      obtain ⟨g0, g1, g2, g3⟩ := HBX.out.frozens
      unfold zeroS at d0 d1 d2 d3
      dsimp only at d0 d1 d2 d3
      go_wp2_with (fail)
      have hb4 := BoxS.set4 HBX.out zeroS
      have hbb : Below w.heap.size w ((((wr.setCell ⟨w.heap.size, 0, none⟩ (.int .u64 0)).setCell ⟨w.heap.size, 1, none⟩ (.int .i64 0)).setCell ⟨w.heap.size, 2, none⟩ (.int .u32 0)).setCell ⟨w.heap.size, 3, none⟩ (.int .u64 0)) := (((HBL.out.setCell (by dsimp only; omega) _).setCell (by dsimp only; omega) _).setCell (by dsimp only; omega) _).setCell (by dsimp only; omega) _
      unfold zeroS at hb4
      dsimp only at hb4
      generalize ((((wr.setCell ⟨w.heap.size, 0, none⟩ (.int .u64 0)).setCell ⟨w.heap.size, 1, none⟩ (.int .i64 0)).setCell ⟨w.heap.size, 2, none⟩ (.int .u32 0)).setCell ⟨w.heap.size, 3, none⟩ (.int .u64 0)) = W5 at *
      obtain ⟨z0, z1, z2, z3⟩ := hb4.cells
      dsimp only at z0 z1 z2 z3
      refine bodyPost_ret (v := .tuple #[shV zeroS, .bool false]) (by simp [results, Try.f23, go_sem, z0, z1, z2, z3, shV, zeroS]) rfl ⟨rfl, hbb⟩
theorem rknown_any (A : Option Addr) (c : Nat) (l : List Pt) (t s m : Int) (w : World) (hA : RdP w w.heap.size A l) (hn : l.length ≤ 1000000) :
    Calls Try.prog 23 #[.slice A l.length c, .int .u64 t, .int .i64 s, .int .u32 m] w fun e w' => e = .returned (.tuple #[shV (knownL l t s m).1, .bool (knownL l t s m).2]) ∧ Below w.heap.size w w' := by
  unfold knownL
  split
  · rename_i h
    exact rknown_right A l.length c l t s m w rfl hA h
  · rename_i h
    exact rknown_wrong A l.length c l t s m w rfl hA h hn
end Go.Proofs.Ytmalcekbhnkfgaa
