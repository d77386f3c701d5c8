/- Contracts of the reference's Used, Names, Read, choice. Conditions: as each theorem states them. -/
import Derived.Test.YtjgiohlkpenipaaJ6
import Derived.Test.YtjgiohlkpenipaaJA
namespace Go.Proofs.Ytjgiohlkpenipaa
open Go.RowKit Go.Maps
set_option linter.unusedVariables false
set_option linter.unusedSimpArgs false

theorem RowsAt.forms {w : World} {v : Rv} {s : DS} (h : RowsAt w v s) : ∃ Af cf Ad cd Ak ck Aw cw, v = ⟨.slice Af s.files.length cf, .slice Ad s.dir.length cd, .slice Ak s.kept.length ck, .slice Aw s.waits.length cw⟩ := by
  obtain ⟨Af, cf, h1, _, _⟩ := own_slice h.f
  obtain ⟨Ad, cd, h2, _, _⟩ := own_slice h.d
  obtain ⟨Ak, ck, h3, _, _⟩ := own_slice h.k
  obtain ⟨Aw, cw, h4, _, _⟩ := own_slice h.w
  obtain ⟨a, b, c, d⟩ := v
  dsimp only at h1 h2 h3 h4
  subst h1 h2 h3 h4
  exact ⟨Af, cf, Ad, cd, Ak, ck, Aw, cw, rfl⟩
/-- The names' files are files. -/
def Fb (s : DS) : Prop := ∀ p ∈ s.dir, p.2 < s.files.length
theorem sum_take (g : Nat → Nat) {l : Dir} {i : Nat} (h : i < l.length) : sumD g (l.take (i + 1)) = sumD g (l.take i) + g (l[i]).2 := by
  unfold sumD
  rw [List.take_succ_eq_append_getElem h, List.map_append, List.sum_append]
  simp
theorem sum_take_le (g : Nat → Nat) (l : Dir) (i : Nat) : sumD g (l.take i) ≤ sumD g l := by
  unfold sumD
  conv => rhs; rw [← List.take_append_drop i l, List.map_append, List.sum_append]
  exact Nat.le_add_right _ _
theorem file_at {s : DS} {i : Nat} (h : i < s.files.length) : s.file i = s.files[i] := by
  unfold DS.file
  rw [List.getD_eq_getElem?_getD, List.getElem?_eq_getElem h]
  rfl
set_option maxRecDepth 100000 in
set_option maxHeartbeats 4000000 in
theorem rused_any (v : Rv) (s : DS) (w : World) (h : RowsAt w v s) (fb : Fb s) (hu : sumD (fun i => (s.file i).data.size) s.dir < 4611686018427387904) :
    Calls Try.prog 63 #[refV s v] w fun e w' => e = .returned (.int .i64 s.used) ∧ Below w.heap.size w w' := by
  obtain ⟨Af, cf, Ad, cd, Ak, ck, Aw, cw, rfl⟩ := h.forms
  have HF := Lib.hid h.f
  have HD := Lib.hid h.d
  have FB := Lib.hid fb
  have HU := Lib.hid hu
  obtain ⟨n, hn⟩ : ∃ n, s.dir.length = n := ⟨_, rfl⟩
  obtain ⟨m, hm⟩ : ∃ m, s.files.length = m := ⟨_, rfl⟩
  have HN := Lib.hid hn
  have HM := Lib.hid hm
  unfold refV rcells
  dsimp only at HF HD ⊢
  rw [hn] at HD ⊢
  rw [hm] at HF ⊢
  have hnB : n ≤ 9223372036854775807 := by
    rcases HD.out.2 with ⟨_, h0⟩ | ⟨_, c, _, h0, _, _, h1, h2, _⟩
    · omega
    · unfold maxLen at h2; omega
  have hb0 := bl_alloc (Below.refl w.heap.size w) (Obj.cells #[.int .i64 s.room, .int .i64 s.steps, .int .i64 s.fuse, .bool s.down, .slice Af m cf, .slice Ad n cd, .slice Ak s.kept.length ck, .slice Aw s.waits.length cw] 52)
  have HB0 := Lib.hid hb0
  have HBX := Lib.hid (new_heap w (Obj.cells #[.int .i64 s.room, .int .i64 s.steps, .int .i64 s.fuse, .bool s.down, .slice Af m cf, .slice Ad n cd, .slice Ak s.kept.length ck, .slice Aw s.waits.length cw] 52))
  obtain ⟨U, hU⟩ : ∃ U, s.used = U := ⟨_, rfl⟩
  rw [hU]
  cases hdn : s.down with
  | true =>
    rw [hdn] at HB0
    have hU0 : U = 0 := by rw [← hU]; unfold DS.used; rw [if_pos hdn]
    subst hU0
    clear h fb hu hn hm hb0 hU hdn HBX
    go_enter Try.func63, Try.ntmps63
    go_wp2_with (fail)
    go_loopw [3, 4] (fun vu vi wr => vu = .int .i64 0 ∧ vi = .int .i64 0 ∧ wr = (w.alloc (Obj.cells #[.int .i64 s.room, .int .i64 s.steps, .int .i64 s.fuse, .bool true, .slice Af m cf, .slice Ad n cd, .slice Ak s.kept.length ck, .slice Aw s.waits.length cw] 52))) (fun _ _ _ => 0)
    case atStart => exact ⟨rfl, rfl, rfl⟩
    case round =>
      obtain ⟨rfl, rfl, rfl⟩ := hrel
      by_cases h0 : 0 < n
      · have h1 : (0 : Int) < (n : Int) := by omega
        go_wp2_with (fail)
        go_ret
        exact ⟨rfl, HB0.out⟩
      · have h1 : ¬ (0 : Int) < (n : Int) := by omega
        go_wp2_with (fail)
        go_ret
        exact ⟨rfl, HB0.out⟩
  | false =>
    rw [hdn] at HB0 HBX
    have HUS : Hid (U = sumD (fun i => (s.file i).data.size) s.dir) := Lib.hid (by rw [← hU]; unfold DS.used; rw [if_neg (by simp [hdn])])
    clear h fb hu hn hm hb0 hU hdn
    go_enter Try.func63, Try.ntmps63
    go_wp2_with (fail)
    generalize (w.alloc (Obj.cells #[.int .i64 s.room, .int .i64 s.steps, .int .i64 s.fuse, .bool false, .slice Af m cf, .slice Ad n cd, .slice Ak s.kept.length ck, .slice Aw s.waits.length cw] 52)) = W at *
    have hwl := (Array.getElem?_eq_some_iff.1 HBX.out).1
    go_loopw [3, 4] (fun vu vi wr => ∃ i : Nat, i ≤ n ∧ vi = .int .i64 i ∧ (∃ u : Nat, vu = .int .i64 u ∧ u = sumD (fun i => (s.file i).data.size) (s.dir.take i)) ∧ Below W.heap.size W wr) (fun _ i _ => n - (intOf i).toNat)
    case atStart => exact ⟨0, Nat.zero_le _, rfl, ⟨0, rfl, rfl⟩, Below.refl _ _⟩
    case round =>
      obtain ⟨i, hin, rfl, ⟨u, rfl, hu⟩, hbl⟩ := hrel
      have HBL := Lib.hid hbl
      have HUU := Lib.hid hu
      have hws := hbl.size
      have hwl2 : w.heap.size < wr.heap.size := by omega
      have hbx := (hbl.block _ hwl).trans HBX.out
      have c3 := cell_of hbx 3
      have c4 := cell_of hbx 4
      have c5 := cell_of hbx 5
      simp only [List.getElem?_toArray, List.getElem?_cons_zero, List.getElem?_cons_succ] at c3 c4 c5
      clear hbl hbx hu
      by_cases hi : i < n
      · have hi0 : (0 : Int) ≤ (i : Int) := by omega
        have hi1 : (i : Int) < (n : Int) := by omega
        have hil : i < s.dir.length := by rw [HN.out]; exact hi
        have hfl := FB.out _ (List.getElem_mem hil)
        obtain ⟨ga, rfl⟩ : ∃ g, Ad = some ⟨g, 0, none⟩ := by
          rcases HD.out.2 with ⟨h0, h1⟩ | ⟨g, c, cur, h0, _⟩
          · omega
          · cases h0; exact ⟨g, rfl⟩
        obtain ⟨gl, _, gc, _, _⟩ := row_cells HD.out
        have r1 := (HBL.out.cell (p := ⟨ga, _, none⟩) (Nat.lt_of_lt_of_le gl HB0.out.size)).trans ((HB0.out.cell (p := ⟨ga, _, none⟩) gl).trans (gc _ _ (ecells_at hil).2))
        have gl2 : ga < wr.heap.size := by have := HB0.out.size; omega
        obtain ⟨k, hk⟩ : ∃ k, (s.dir[i]).2 = k := ⟨_, rfl⟩
        have HST := Lib.hid (sum_take (fun i => (s.file i).data.size) hil)
        rw [hk] at r1 hfl HST
        obtain ⟨gb, rfl⟩ : ∃ g, Af = some ⟨g, 0, none⟩ := by
          rcases HF.out.2 with ⟨h0, h1⟩ | ⟨g, c, cur, h0, _⟩
          · have := HM.out; omega
          · cases h0; exact ⟨g, rfl⟩
        obtain ⟨fl, _, fc, _, _⟩ := row_cells HF.out
        have r2 := (HBL.out.cell (p := ⟨gb, _, none⟩) (Nat.lt_of_lt_of_le fl HB0.out.size)).trans ((HB0.out.cell (p := ⟨gb, _, none⟩) fl).trans (fc _ _ (fcells_at hfl).1))
        rw [← file_at hfl] at r2
        have fl2 : gb < wr.heap.size := by have := HB0.out.size; omega
        obtain ⟨D, hD⟩ : ∃ D, (s.file k).data = D := ⟨_, rfl⟩
        obtain ⟨z, hz⟩ : ∃ z, D.size = z := ⟨_, rfl⟩
        rw [hD] at r2
        have hk0 : (0 : Int) ≤ (k : Int) := by omega
        have hk1 : (k : Int) < (m : Int) := by have := HM.out; omega
        have HSZ : Hid (u + z = sumD (fun i => (s.file i).data.size) (s.dir.take (i + 1))) := Lib.hid (by
          have h1 := HST.out
          rw [hD, hz] at h1
          rw [h1, HUU.out])
        have hub : u + z < 4611686018427387904 := by
          have h1 := sum_take_le (fun i => (s.file i).data.size) s.dir (i + 1)
          have h2 := HU.out
          have h3 := HSZ.out
          omega
        have hub1 : (u : Int) + (z : Int) ≤ 4611686018427387904 := by omega
        have hub0 : (0 : Int) ≤ (u : Int) + (z : Int) := by omega
        have q3 := ext_cell c3
        have q4 := ext_cell c4
        have q5 := ext_cell c5
        have q1 := ext_cell r1
        have q2 := ext_cell r2
        clear hk hfl hD gc fc HST hub hil
        go_wp2_with (fail)
        refine wp_region_ext (by kernel_rfl) (by kernel_rfl) ?_
        repeat (go_big_quiet_step (fail))
        refine wpQuiet_nil ?_
        rintro w8 ⟨⟨_, hb8⟩, rfl⟩
        have HB8 := Lib.hid (HBL.out.trans (hb8.mono HBL.out.size))
        clear hb8
        go_wp2_with (fail)
        exact ⟨⟨i + 1, by omega, by push_cast; rfl, ⟨u + z, by rw [← hz]; push_cast; rfl, HSZ.out⟩, HB8.out⟩, by simp [intOf]; omega⟩
      · have hi1 : ¬ (i : Int) < (n : Int) := by omega
        have hE : Hid (u = U) := Lib.hid (by
          have hie : s.dir.take i = s.dir := List.take_of_length_le (by rw [HN.out]; omega)
          rw [HUU.out, hie, HUS.out])
        go_wp2_with (fail)
        go_ret
        exact ⟨by rw [hE.out]; rfl, HB0.out.trans (HBL.out.mono HB0.out.size)⟩
end Go.Proofs.Ytjgiohlkpenipaa
