/- Contracts of the reference's Names, Read, choice. Conditions: as each theorem states them. -/
import Derived.Test.YtjgiohlkpenipaaJ8
namespace Go.Proofs.Ytjgiohlkpenipaa
open Go.RowKit Go.Maps
set_option linter.unusedVariables false
set_option linter.unusedSimpArgs false

theorem und74 : Try.prog.underlying 74 = some (.slice 9) := by kernel_rfl
theorem i9 : (Try.prog.info? 9).map (fun i => (i.zero, i.size, i.bytes)) = some (some (.string ⟨#[]⟩), 1, 16) := by kernel_rfl
def ncells (l : Dir) : List Value := l.map fun p => .string p.1
theorem names_of_row {w : World} {B c n : Nat} {A : Option Addr} {l : Dir} (h : w.ownsRow B 9 1 (.slice A n c) n (ncells l)) (hn : l.length = n) : NamesAt w B A l := fun hl => by
  obtain ⟨g, rfl⟩ : ∃ g, A = some ⟨g, 0, none⟩ := by
    rcases h.2 with ⟨_, h1⟩ | ⟨g, c, cur, h0, _⟩
    · omega
    · cases h0; exact ⟨g, rfl⟩
  obtain ⟨gl, gB, gc, _, _⟩ := row_cells (row_base h (Nat.zero_le _))
  refine ⟨g, rfl, ?_, gl, fun j hj => ?_⟩
  · exact (own_blk h rfl).1
  · refine gc j _ ?_
    unfold ncells
    rw [List.getElem?_map, List.getElem?_eq_getElem hj, List.getD_eq_getElem?_getD, List.getElem?_eq_getElem hj]
    rfl
def NamesP (w : World) (l : Dir) (r : Ending) (w' : World) : Prop := ∃ B c, r = .returned (.slice B l.length c) ∧ l.length ≤ c ∧ NamesAt w' w.heap.size B l ∧ Below w.heap.size w w'
theorem NamesP.mk {w w' : World} {l : Dir} {r : Ending} (B : Option Addr) (c : Nat) (h1 : r = .returned (.slice B l.length c)) (h2 : l.length ≤ c) (h3 : NamesAt w' w.heap.size B l) (h4 : Below w.heap.size w w') : NamesP w l r w' := ⟨B, c, h1, h2, h3, h4⟩
set_option maxRecDepth 100000 in
set_option maxHeartbeats 4000000 in
theorem rnames_any (v : Rv) (s : DS) (w : World) (h : RowsAt w v s) (hl : s.dir.length ≤ 1000000) :
    Calls Try.prog 62 #[refV s v] w (NamesP w s.namesL) := by
  obtain ⟨Af, cf, Ad, cd, Ak, ck, Aw, cw, rfl⟩ := h.forms
  have HD := Lib.hid h.d
  obtain ⟨n, hn⟩ : ∃ n, s.dir.length = n := ⟨_, rfl⟩
  have HN := Lib.hid hn
  unfold refV rcells
  dsimp only at HD ⊢
  rw [hn] at HD hl ⊢
  have hb0 := bl_alloc (Below.refl w.heap.size w) (Obj.cells #[.int .i64 s.room, .int .i64 s.steps, .int .i64 s.fuse, .bool s.down, .slice Af s.files.length cf, .slice Ad n cd, .slice Ak s.kept.length ck, .slice Aw s.waits.length cw] 52)
  have HB0 := Lib.hid hb0
  have HBX := Lib.hid (new_heap w (Obj.cells #[.int .i64 s.room, .int .i64 s.steps, .int .i64 s.fuse, .bool s.down, .slice Af s.files.length cf, .slice Ad n cd, .slice Ak s.kept.length ck, .slice Aw s.waits.length cw] 52))
  cases hdn : s.down with
  | true =>
    rw [hdn] at HB0
    have hE : s.namesL = [] := by unfold DS.namesL; rw [if_pos hdn]
    rw [hE]
    clear h hn hb0 hdn HBX hE
    go_enter Try.func62, Try.ntmps62
    go_wp2_with (fail)
    go_loopw [3, 4] (fun vu vi wr => vu = .slice none 0 0 ∧ vi = .int .i64 0 ∧ wr = (w.alloc (Obj.cells #[.int .i64 s.room, .int .i64 s.steps, .int .i64 s.fuse, .bool true, .slice Af s.files.length cf, .slice Ad n cd, .slice Ak s.kept.length ck, .slice Aw s.waits.length cw] 52))) (fun _ _ _ => 0)
    case atStart => exact ⟨rfl, rfl, rfl⟩
    case round =>
      obtain ⟨rfl, rfl, rfl⟩ := hrel
      by_cases h0 : 0 < n
      · have h1 : (0 : Int) < (n : Int) := by omega
        go_wp2_with (fail)
        go_ret
        exact NamesP.mk none 0 rfl (Nat.le_refl _) (fun h => absurd h (by simp)) HB0.out
      · have h1 : ¬ (0 : Int) < (n : Int) := by omega
        go_wp2_with (fail)
        go_ret
        exact NamesP.mk none 0 rfl (Nat.le_refl _) (fun h => absurd h (by simp)) HB0.out
  | false =>
    rw [hdn] at HB0 HBX
    have hE : s.namesL = s.dir := by unfold DS.namesL; rw [if_neg (by simp [hdn])]
    rw [hE]
    clear h hn hb0 hdn hE
    go_enter Try.func62, Try.ntmps62
    go_wp2_with (fail)
    generalize (w.alloc (Obj.cells #[.int .i64 s.room, .int .i64 s.steps, .int .i64 s.fuse, .bool false, .slice Af s.files.length cf, .slice Ad n cd, .slice Ak s.kept.length ck, .slice Aw s.waits.length cw] 52)) = W at *
    have hwl := (Array.getElem?_eq_some_iff.1 HBX.out).1
    go_loopw [3, 4] (fun vu vi wr => ∃ i : Nat, i ≤ n ∧ vi = .int .i64 i ∧ wr.ownsRow W.heap.size 9 1 vu i (ncells (s.dir.take i)) ∧ Below W.heap.size W wr) (fun _ i _ => n - (intOf i).toNat)
    case atStart => exact ⟨0, Nat.zero_le _, rfl, ⟨rfl, .inl ⟨rfl, rfl⟩⟩, Below.refl _ _⟩
    case round =>
      obtain ⟨i, hin, rfl, hown, hbl⟩ := hrel
      have HBL := Lib.hid hbl
      have HO := Lib.hid hown
      have hws := hbl.size
      have hwl2 : w.heap.size < wr.heap.size := by omega
      have hbx := (hbl.block _ hwl).trans HBX.out
      have c3 := cell_of hbx 3
      have c5 := cell_of hbx 5
      simp only [List.getElem?_toArray, List.getElem?_cons_zero, List.getElem?_cons_succ] at c3 c5
      clear hbl hbx hown
      by_cases hi : i < n
      · have hi0 : (0 : Int) ≤ (i : Int) := by omega
        have hi1 : (i : Int) < (n : Int) := by omega
        have hil : i < s.dir.length := by rw [HN.out]; exact hi
        obtain ⟨ga, rfl⟩ : ∃ g, Ad = some ⟨g, 0, none⟩ := by
          rcases HD.out.2 with ⟨h0, h1⟩ | ⟨g, c, cur, h0, _⟩
          · omega
          · cases h0; exact ⟨g, rfl⟩
        obtain ⟨gl, _, gc, _, _⟩ := row_cells HD.out
        have r1 := (HBL.out.cell (p := ⟨ga, _, none⟩) (Nat.lt_of_lt_of_le gl HB0.out.size)).trans ((HB0.out.cell (p := ⟨ga, _, none⟩) gl).trans (gc _ _ (ecells_at hil).1))
        have gl2 : ga < wr.heap.size := by have := HB0.out.size; omega
        obtain ⟨x, hx⟩ : ∃ x, (s.dir[i]).1 = x := ⟨_, rfl⟩
        have HT : Hid (ncells (s.dir.take i) ++ [.string x] = ncells (s.dir.take (i + 1))) := Lib.hid (by
          rw [List.take_succ_eq_append_getElem hil]
          unfold ncells
          rw [List.map_append, ← hx]
          rfl)
        rw [hx] at r1
        have hb1 := bl_alloc (Below.refl wr.heap.size wr) (Obj.cells #[.string x] 9)
        have HO1 : Hid ((wr.alloc (Obj.cells #[.string x] 9)).ownsRow W.heap.size 9 1 u3 i (ncells (s.dir.take i))) := Lib.hid (own_kw HO.out (Kw.ofBelow (S := fun _ => False) hb1) (fun _ _ e => e))
        have HX1 : Hid ((wr.alloc (Obj.cells #[.string x] 9)).ownsRow 0 9 1 (.slice (some ⟨wr.heap.size, 0, none⟩) 1 1) 1 [.string x]) := Lib.hid (own_one (new_heap _ _) rfl (Nat.zero_le _))
        have HB1 : Hid (Below W.heap.size W (wr.alloc (Obj.cells #[.string x] 9))) := Lib.hid (HBL.out.trans (hb1.mono hws))
        have HI : Hid (i + 1 ≤ 4000000) := Lib.hid (by omega)
        have H1 : Hid (∀ u ∈ ([.string x] : List Value), u.oneCell' = true) := Lib.hid (by simp [Value.oneCell'])
        clear hx gc hil hb1
        go_wp2_with (at_builtin; refine wpList_append_row _ rfl _ _ 74 9 1 16 _ und74 i9 rfl (by decide) (by decide) rfl W.heap.size 0 i _ (ncells (s.dir.take i)) rfl HO1.out _ 1 [.string x] rfl HX1.out H1.out HI.out HB1.out.size ?_; intro v' w' ho' hg')
        have HOO := Lib.hid ho'
        have HBB := Lib.hid (HB1.out.grown hg' HB1.out.size (fun q hq => (own_blk HO1.out hq).1))
        clear ho' hg'
        go_wp2_with (fail)
        exact ⟨⟨i + 1, by omega, by push_cast; rfl, by rw [← HT.out]; exact HOO.out, HBB.out⟩, by simp [intOf]; omega⟩
      · have hi1 : ¬ (i : Int) < (n : Int) := by omega
        have hie : i = n := by omega
        subst hie
        obtain ⟨A, c, rfl, hc, _⟩ := own_slice HO.out
        have HR : Hid (i ≤ c ∧ NamesAt wr w.heap.size A s.dir) := Lib.hid ⟨hc, by
          have h1 := HO.out
          rw [List.take_of_length_le (by rw [HN.out]; omega)] at h1
          intro hl
          obtain ⟨g, e1, e2, e3⟩ := names_of_row h1 HN.out hl
          exact ⟨g, e1, by have := HB0.out.size; omega, e3⟩⟩
        clear hc
        go_wp2_with (fail)
        go_ret
        exact NamesP.mk A c (by rw [HN.out]; rfl) (by rw [HN.out]; exact HR.out.1) HR.out.2 (HB0.out.trans (HBL.out.mono HB0.out.size))
set_option maxRecDepth 100000 in
set_option maxHeartbeats 4000000 in
theorem rread_any (v : Rv) (s : DS) (n : ByteArray) (w : World) (h : RowsAt w v s) (fb : Fb s) (hl : s.dir.length ≤ 1000000) :
    Calls Try.prog 64 #[refV s v, .string n] w fun e w' => e = .returned (.tuple #[.string (s.read n).1, .int .i64 (s.read n).2]) ∧ Below w.heap.size w w' := by
  have HFI := Lib.hid (fun W (k : Below w.heap.size w W) => find_any v.d s.dir n W (h.below k).d (by omega))
  obtain ⟨Af, cf, Ad, cd, Ak, ck, Aw, cw, rfl⟩ := h.forms
  have HF := Lib.hid h.f
  unfold refV rcells
  dsimp only at HF HFI ⊢
  have hb0 := bl_alloc (Below.refl w.heap.size w) (Obj.cells #[.int .i64 s.room, .int .i64 s.steps, .int .i64 s.fuse, .bool s.down, .slice Af s.files.length cf, .slice Ad s.dir.length cd, .slice Ak s.kept.length ck, .slice Aw s.waits.length cw] 52)
  have HB0 := Lib.hid hb0
  cases hdn : s.down with
  | true =>
    rw [hdn] at HB0
    have hE : s.read n = (ByteArray.empty, 9) := by unfold DS.read; rw [if_pos hdn]
    rw [hE]
    clear h fb hb0 hdn hE HFI hl
    go_enter Try.func64, Try.ntmps64
    go_wp2_with (fail)
    go_ret2
    exact ⟨rfl, HB0.out⟩
  | false =>
    rw [hdn] at HB0
    have HFN := Lib.hid (HFI.out _ HB0.out)
    cases hk : look s.dir n with
    | none =>
      have hE : s.read n = (ByteArray.empty, 4) := by unfold DS.read; rw [if_neg (by simp [hdn]), hk]
      have hfi : findI s.dir n = -1 := by unfold findI; rw [hk]
      rw [hE]
      rw [hfi] at HFN
      clear h fb hb0 hdn hE HFI hl hk hfi
      go_enter Try.func64, Try.ntmps64
      go_wp2_with (fail)
      refine HFN.out.mono ?_
      rintro r w' ⟨rfl, rfl⟩
      go_wp2_with (fail)
      go_ret2
      exact ⟨rfl, HB0.out⟩
    | some k =>
      have hE : s.read n = ((s.file k).data, 0) := by unfold DS.read; rw [if_neg (by simp [hdn]), hk]
      have hfi : findI s.dir n = k := by unfold findI; rw [hk]
      rw [hE]
      rw [hfi] at HFN
      have hfl := fb _ (look_some hk)
      obtain ⟨gb, rfl⟩ : ∃ g, Af = some ⟨g, 0, none⟩ := by
        rcases HF.out.2 with ⟨h0, h1⟩ | ⟨g, c, cur, h0, _⟩
        · have hfl : k < s.files.length := hfl
          omega
        · cases h0; exact ⟨g, rfl⟩
      obtain ⟨fl, _, fc, _, _⟩ := row_cells HF.out
      have r2 := (HB0.out.cell (p := ⟨gb, _, none⟩) fl).trans (fc _ _ (fcells_at hfl).1)
      rw [← file_at hfl] at r2
      obtain ⟨D, hD⟩ : ∃ D, (s.file k).data = D := ⟨_, rfl⟩
      have hk0 : (0 : Int) ≤ (k : Int) := by omega
      have hk1 : (k : Int) < (s.files.length : Int) := by have hfl : k < s.files.length := hfl; omega
      dsimp only at r2
      rw [hD] at r2
      rw [hD]
      have fl2 := Nat.lt_of_lt_of_le fl HB0.out.size
      clear h fb hb0 hdn hE HFI hl hk hfi hD hfl fc
      go_enter Try.func64, Try.ntmps64
      go_wp2_with (fail)
      refine HFN.out.mono ?_
      rintro r w' ⟨rfl, rfl⟩
      go_wp2_with (fail)
      go_ret2
      exact ⟨rfl, HB0.out⟩
set_option maxRecDepth 100000 in
set_option maxHeartbeats 4000000 in
theorem choice_any (k n : Nat) (cs : List Int) (A : Option Addr) (c : Nat) (w : World) (hA : RdC w A cs) (hn : 0 < n) (hn2 : n ≤ 1000000000000) :
    Calls Try.prog 76 #[.slice A cs.length c, .int .i64 k, .int .i64 n] w fun e w' => e = .returned (.int .i64 (pick (cs.drop k) n)) ∧ w = w' := by
  obtain ⟨m, hm⟩ : ∃ m, cs.length = m := ⟨_, rfl⟩
  rw [hm]
  by_cases hk : k < m
  · obtain ⟨b, off, rfl, hbl, hcl⟩ := hA.1 (by omega)
    have c1 := hcl k (by omega)
    have hxm : cs.getD k 0 ∈ cs := by
      rw [List.getD_eq_getElem?_getD, List.getElem?_eq_getElem (by omega)]
      exact List.getElem_mem _
    obtain ⟨hx1, hx2⟩ := hA.2 _ hxm
    have hdr : (cs.drop k).headD 0 = cs.getD k 0 := by
      rw [List.headD_eq_head?_getD, List.head?_drop, List.getD_eq_getElem?_getD]
    have hp : pick (cs.drop k) n = ((cs.getD k 0) % (n : Int)).toNat := by unfold pick; rw [hdr]
    rw [hp]
    obtain ⟨x, hx⟩ : ∃ x, cs.getD k 0 = x := ⟨_, rfl⟩
    rw [hx] at c1 hx1 hx2 ⊢
    have k0 : (0 : Int) ≤ (k : Int) := by omega
    have k1 : (k : Int) < (m : Int) := by omega
    have g1 : (0 : Int) < (n : Int) := by omega
    have g2 : (n : Int) ≤ 1000000000000 := by omega
    have g0 : (n : Int) ≠ 0 := by omega
    have t1 := Int.tmod_lt_of_pos x g1
    have t2 := Int.lt_tmod_of_pos x g1
    have e1 := Int.emod_lt_of_pos x g1
    have e2 := Int.emod_nonneg x (show (n : Int) ≠ 0 by omega)
    have hM : ((x % (n : Int)).toNat : Int) = if x.tmod n < 0 then x.tmod n + n else x.tmod n := by
      rw [Int.toNat_of_nonneg e2]
      have h1 := @Int.tmod_eq_emod x n
      by_cases hc : 0 ≤ x ∨ (n : Int) ∣ x
      · rw [if_pos hc] at h1
        rw [if_neg (by omega)]
        omega
      · rw [if_neg hc] at h1
        rw [if_pos (by omega)]
        omega
    obtain ⟨P, hP⟩ : ∃ P, (x % (n : Int)).toNat = P := ⟨_, rfl⟩
    rw [hP] at hM ⊢
    by_cases ht : x.tmod n < 0
    · rw [if_pos ht] at hM
      have HM := Lib.hid hM
      have t3 : -1000000000000 ≤ x.tmod n := by omega
      clear hA hcl hxm hdr hp hx e1 e2 hm hM hP
      go_enter Try.func76, Try.ntmps76
      go_wp2_with (fail)
      go_ret
      exact ⟨by rw [HM.out]; rfl, rfl⟩
    · rw [if_neg ht] at hM
      have HM := Lib.hid hM
      clear hA hcl hxm hdr hp hx e1 e2 hm hM hP
      go_enter Try.func76, Try.ntmps76
      go_wp2_with (fail)
      go_ret
      exact ⟨by rw [HM.out]; rfl, rfl⟩
  · have hp : pick (cs.drop k) n = 0 := by
      unfold pick
      rw [List.drop_eq_nil_of_le (by omega)]
      simp
    rw [hp]
    have k1 : ¬ (k : Int) < (m : Int) := by omega
    have k2 : (m : Int) ≤ (k : Int) := by omega
    clear hA hm hp
    go_enter Try.func76, Try.ntmps76
    go_wp2_with (fail)
    go_ret
    exact ⟨rfl, rfl⟩
end Go.Proofs.Ytjgiohlkpenipaa
