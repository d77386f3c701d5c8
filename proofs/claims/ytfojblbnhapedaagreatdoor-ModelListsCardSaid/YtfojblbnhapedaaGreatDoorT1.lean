/- Contract of model.windows. Conditions: as each theorem states them. -/
import Derived.Test.YtfojblbnhapedaaGreatDoorT0
import Derived.Test.YtfojblbnhapedaaGreatDoorH2
import Derived.Test.YtfojblbnhapedaaGreatDoorG0
import Derived.Test.YtfojblbnhapedaaGreatDoorP0
namespace Go.Proofs.YtfojblbnhapedaaGreatDoor
open Go.RowKit Go.Maps
set_option linter.unusedVariables false
set_option linter.unusedSimpArgs false

/-- The windows of an operator and a key. -/
def pickW (op : Int) (key : ByteArray) (l : List (Pl × Rw)) : List (Int × Int) := (l.filter fun b => decide (b.1.op = op ∧ b.1.key = key)).map fun b => (b.1.f, b.1.t)
theorem pickW_perm {op : Int} {key : ByteArray} {l l' : List (Pl × Rw)} (h : l.Perm l') : (pickW op key l).Perm (pickW op key l') := (h.filter _).map _
theorem pickW_snoc (op : Int) (key : ByteArray) (l : List (Pl × Rw)) (b : Pl × Rw) : pickW op key (l ++ [b]) = pickW op key l ++ (if b.1.op = op ∧ b.1.key = key then [(b.1.f, b.1.t)] else []) := by
  unfold pickW
  rw [List.filter_append, List.map_append]
  congr 1
  rw [List.filter_cons]
  split <;> simp_all
theorem pickW_len (op : Int) (key : ByteArray) (l : List (Pl × Rw)) : (pickW op key l).length ≤ l.length := by
  unfold pickW
  rw [List.length_map]
  exact List.length_filter_le _ _
def Md.Lp (M : Md) : List (Pl × Rw) := M.L.map fun x => (x.p, x.r)
/-- A key's open windows, by rising From. -/
def winsOf (M : Md) (op : Int) (key : ByteArray) : List (Int × Int) := sortW (pickW op key M.Lp)
theorem tl_eq {a b : ByteArray} (h : a = b) : (a.toList == b.toList) = true := by subst h; simp
theorem wcells_app (l : List (Int × Int)) (a b : Int) : wcells (l ++ [(a, b)]) = wcells l ++ [.int .i64 a, .int .i64 b] := by
  unfold wcells
  rw [List.flatMap_append]
  rfl
theorem und73 : Tryz.prog.underlying 73 = some (.slice 54) := by kernel_rfl
theorem i54 : (Tryz.prog.info? 54).map (fun i => (i.zero, i.size, i.bytes)) = some (some (.agg #[.int .i64 0, .int .i64 0]), 2, 16) := by kernel_rfl
set_option maxRecDepth 100000 in
set_option maxHeartbeats 8000000 in
theorem windows_any (B : Lo) (M : Md) (op : Int) (key : ByteArray) (w : World) (h : MdAt w B M) (hnd : (M.Lp.map (·.1)).Nodup) (hd : DistF (pickW op key M.Lp)) (hlen : M.Lp.length ≤ 100000) :
    Calls Tryz.prog 44 #[ptrV B.bm, .int .i64 op, .string key] w fun e w' => ∃ v, e = .returned v ∧ w'.ownsRow w.heap.size 54 2 v (winsOf M op key).length (wcells (winsOf M op key)) ∧ Below w.heap.size w w' := by
  have HD := Lib.hid hd
  have HND := Lib.hid hnd
  have c6 := h.c 6
  have hl := h.lt
  have HMP := Lib.hid h.map
  obtain ⟨Lp, hLp⟩ : ∃ Lp, M.Lp = Lp := ⟨_, rfl⟩
  have e0 : (M.L.map fun x => (x.p, x.r)) = Lp := hLp
  rw [e0] at HMP
  unfold winsOf
  rw [hLp] at HD HND hlen ⊢
  simp only [mdcells, List.getElem?_toArray, List.getElem?_cons_zero, List.getElem?_cons_succ] at c6
  unfold ptrV
  clear h hLp e0 hd hnd
  go_enter Tryz.func44, Tryz.ntmps44
  go_wp2_with (at_range; refine wpList_range_pl _ rfl (.tmp 12) rfl B.bo Lp rfl HMP.out HND.out ?_; intro w0 hrg0 hg0 hs0)
  have HB0 : Hid (Below w.heap.size w w0) := Lib.hid ((Below.refl _ _).grown hg0 (Nat.le_refl _) (fun k hk => by cases hk))
  have HRG := Lib.hid hrg0
  clear hrg0 hg0
  go_frame
  go_loopw [7] (fun v7 wr => ∃ (todo done : List (Pl × Rw)) (cnt : Nat), MapRg wr B.bo w.heap.size Lp todo cnt ∧ (done ++ todo).Perm Lp ∧ wr.ownsRow (w.heap.size + 1) 54 2 v7 (pickW op key done).length (wcells (pickW op key done)) ∧ Below w.heap.size w wr) (fun _ wr => wr.rangeLeft B.bo w.heap.size)
  case atStart => exact ⟨Lp, [], Lp.length, HRG.out, List.Perm.refl _, ⟨rfl, .inl ⟨rfl, rfl⟩⟩, HB0.out⟩
  case round =>
    obtain ⟨todo, done, cnt, hrg, hp, hown, hbl⟩ := hrel
    have HRR := Lib.hid hrg
    have HP := Lib.hid hp
    have HO := Lib.hid hown
    have HBL := Lib.hid hbl
    clear hrg hp hown hbl
    go_wp2_with (at_next; refine wpList_next_pl _ rfl _ rfl B.bo w.heap.size Lp todo cnt rfl HRR.out ?_ ?_)
    · intro ht
      have hpp : done.Perm Lp := by have := HP.out; rw [ht, List.append_nil] at this; exact this
      have HPP := Lib.hid hpp
      have HS := Lib.hid (sortw_any (w.heap.size + 1) _ u7 (pickW op key done) wr HO.out rfl (by have := pickW_len op key done; have := hpp.length_eq; omega) (fun x hx y hy e => HD.out x ((pickW_perm hpp).mem_iff.1 hx) y ((pickW_perm hpp).mem_iff.1 hy) e))
      clear hpp ht
      go_wp2_with (fail)
      refine HS.out.mono ?_
      rintro e w2 ⟨rfl, ho2, hk2⟩
      have HO2 := Lib.hid ho2
      have HK2 := Lib.hid hk2
      clear ho2 hk2
      go_wp2_with (fail)
      go_ret
      have hs : sortW (pickW op key done) = sortW (pickW op key Lp) := sortW_uniq HD.out ((sortW_perm _).trans (pickW_perm HPP.out)) (sortW_sorted _)
      refine ⟨_, rfl, ?_, ?_⟩
      · have h := HO2.out
        rw [← (sortW_perm (pickW op key done)).length_eq, hs] at h
        exact own_weaken h (by omega)
      · exact HBL.out.trans (HK2.out.below HBL.out.size (fun b hb => by have := (HO.out.lt b hb).1; omega))
    · intro pp rr todo' w1 cnt1 hpb hrg1 hlt hg1 hs1 hen
      have hb1 : Below w.heap.size w w1 := HBL.out.grown hg1 HBL.out.size (fun k hk => by cases hk; exact Nat.le_refl _)
      have hne : ∀ g cur, wr.heap[g]? = some (Obj.cells cur 54) → g ≠ w.heap.size := fun g cur hg e => by
        obtain ⟨a, b, c, d, hi⟩ := HRR.out.iter
        subst e
        rw [hi] at hg
        cases hg
      have ho1 : w1.ownsRow (w.heap.size + 1) 54 2 u7 (pickW op key done).length (wcells (pickW op key done)) := by
        refine ⟨HO.out.1, ?_⟩
        rcases HO.out.2 with h0 | ⟨g, c, cur, e1, hb, hg, hr⟩
        · exact .inl h0
        · exact .inr ⟨g, c, cur, e1, hb, (hg1.block g (Array.getElem?_eq_some_iff.1 hg).1 (fun e => hne g cur hg (by injection e))).trans hg, hr⟩
      have HB1 := Lib.hid hb1
      have HO1 := Lib.hid ho1
      have HRG1 := Lib.hid hrg1
      have HPB : Hid ((done ++ [(pp, rr)] ++ todo').Perm Lp) := Lib.hid (by
        rw [List.append_assoc]
        exact (List.Perm.append_left done hpb.symm).trans HP.out)
      have HMS : Hid (∀ w2, MapRg w2 B.bo w.heap.size Lp todo' cnt1 → w2.rangeLeft B.bo w.heap.size < wr.rangeLeft B.bo w.heap.size) := Lib.hid (fun w2 h2 => by
        rw [h2.left_eq, HRR.out.left_eq]; exact hlt)
      have HSN := Lib.hid (pickW_snoc op key done (pp, rr))
      obtain ⟨o, k, f, t⟩ := pp
      unfold plV at hen
      dsimp only at hen HSN
      have hsz1 : w.heap.size < w1.heap.size := HRG1.out.lt
      clear hb1 ho1 hrg1 hpb hlt hg1 hs1 hne
      have HA : Hid (Below w.heap.size w (w1.alloc (Obj.cells #[.int .i64 o, .string k, .int .i64 f, .int .i64 t] 105))) := Lib.hid (bl_alloc HB1.out _)
      have HRA : Hid (MapRg (w1.alloc (Obj.cells #[.int .i64 o, .string k, .int .i64 f, .int .i64 t] 105)) B.bo w.heap.size Lp todo' cnt1) := Lib.hid (HRG1.out.below (bl_alloc (Below.refl _ _) _))
      by_cases h1 : o = op
      · subst h1
        by_cases h2 : k = key
        · subst h2
          have hk : (k.toList == k.toList) = true := tl_eq rfl
          have HSN2 : Hid (pickW o k (done ++ [(⟨o, k, f, t⟩, rr)]) = pickW o k done ++ [(f, t)]) := Lib.hid (by rw [HSN.out, if_pos ⟨rfl, rfl⟩])
          have hba := bl_alloc (Below.refl w1.heap.size w1) (Obj.cells #[.int .i64 o, .string k, .int .i64 f, .int .i64 t] 105)
          have hs2 : (w1.alloc (Obj.cells #[.int .i64 o, .string k, .int .i64 f, .int .i64 t] 105)).heap.size = w1.heap.size + 1 := by simp
          have hbb := bl_alloc hba (Obj.cells #[.int .i64 f, .int .i64 t] 54)
          have HB4 := Lib.hid (bl_then HB1.out hbb)
          have HR4 := Lib.hid (HRG1.out.below hbb)
          have HO4 := Lib.hid (own_below HO1.out hbb)
          have HNR : Hid (((w1.alloc (Obj.cells #[.int .i64 o, .string k, .int .i64 f, .int .i64 t] 105)).alloc (Obj.cells #[.int .i64 f, .int .i64 t] 54)).ownsRow 0 54 2 (.slice (some ⟨w1.heap.size + 1, 0, none⟩) 1 1) 1 [.int .i64 f, .int .i64 t]) := Lib.hid (own_one (news := [.int .i64 f, .int .i64 t]) (by rw [← hs2]; exact heap_alloc_new (w1.alloc _) _) rfl (Nat.zero_le _))
          have hon : ∀ q ∈ [Value.int .i64 f, .int .i64 t], q.oneCell' = true := by
            intro q hq
            simp only [List.mem_cons, List.not_mem_nil, or_false] at hq
            rcases hq with rfl | rfl <;> rfl
          have HON := Lib.hid hon
          have hbz : w.heap.size + 1 ≤ ((w1.alloc (Obj.cells #[.int .i64 o, .string k, .int .i64 f, .int .i64 t] 105)).alloc (Obj.cells #[.int .i64 f, .int .i64 t] 54)).heap.size := by have := HB4.out.size; have := HR4.out.lt; omega
          have hdl : (pickW o k done).length + 1 ≤ 4000000 := by
            have h1 := pickW_len o k done
            have h2 := HPB.out.length_eq
            rw [List.length_append, List.length_append] at h2
            omega
          obtain ⟨nd, hnd⟩ : ∃ nd, (pickW o k done).length = nd := ⟨_, rfl⟩
          rw [hnd] at hdl HO4
          have HNDL := Lib.hid hnd
          clear hnd hon hba hbb hs2
          go_wp2_with (at_builtin; refine wpList_append_row _ rfl _ _ 73 54 2 16 (.agg #[.int .i64 0, .int .i64 0]) und73 i54 rfl (by decide) (by decide) rfl (w.heap.size + 1) 0 nd u7 _ rfl HO4.out _ 1 _ rfl HNR.out HON.out hdl hbz ?_)
          intro v' w5 ho5 hg5 hl5
          have HR5 := Lib.hid (HR4.out.kw ((Kw.refl (fun b => u7.ownBlock = some b) _).grown hg5 (fun k hk => hk)) (fun hs => by
            rcases HO4.out.2 with ⟨e0, _⟩ | ⟨g, c, cur, e0, hB, hg, _⟩
            · rw [e0] at hs; cases hs
            · rw [e0] at hs
              injection hs with hs
              obtain ⟨_, D, ho, _⟩ := HR4.out.map
              obtain ⟨es, clock, hm, _⟩ := ho
              rw [← hs, hg] at hm
              cases hm) (fun hs => by have := (HO4.out.lt _ hs).1; omega))
          have HB5 := Lib.hid (HB4.out.grown hg5 HB4.out.size (fun b hb => by have := (HO4.out.lt b hb).1; omega))
          have HO5 := Lib.hid ho5
          clear ho5 hg5 hl5
          go_wp2_with (fail)
          exact ⟨⟨todo', done ++ [(⟨o, k, f, t⟩, rr)], cnt1, HR5.out, HPB.out, by rw [HSN2.out, wcells_app, List.length_append, HNDL.out]; exact HO5.out, HB5.out⟩, HMS.out _ HR5.out⟩
        · have hk : (k.toList == key.toList) = false := tl_ne h2
          have HSN2 : Hid (pickW o key (done ++ [(⟨o, k, f, t⟩, rr)]) = pickW o key done) := Lib.hid (by rw [HSN.out, if_neg (fun h => h2 h.2), List.append_nil])
          clear h2
          go_wp2_with (fail)
          exact ⟨⟨todo', done ++ [(⟨o, k, f, t⟩, rr)], cnt1, HRA.out, HPB.out, by rw [HSN2.out]; exact own_below HO1.out (bl_alloc (Below.refl _ _) _), HA.out⟩, HMS.out _ HRA.out⟩
      · have hk : (o == op) = false := by simpa using h1
        have HSN2 : Hid (pickW op key (done ++ [(⟨o, k, f, t⟩, rr)]) = pickW op key done) := Lib.hid (by rw [HSN.out, if_neg (fun h => h1 h.1), List.append_nil])
        clear h1
        go_wp2_with (fail)
        exact ⟨⟨todo', done ++ [(⟨o, k, f, t⟩, rr)], cnt1, HRA.out, HPB.out, by rw [HSN2.out]; exact own_below HO1.out (bl_alloc (Below.refl _ _) _), HA.out⟩, HMS.out _ HRA.out⟩
end Go.Proofs.YtfojblbnhapedaaGreatDoor
