/- Contract of ref.Drop. Conditions: as each theorem states them. -/
import Derived.Test.YtmalcekbhnkfgaaF5
namespace Go.Proofs.Ytmalcekbhnkfgaa
open Go.RowKit Go.Maps Go.Shelf
set_option linter.unusedVariables false
set_option linter.unusedSimpArgs false

theorem dropL_snoc_t {l : List Pt} {p : Pt} {id : Int} (h : p.id ≠ id) : dropL (l ++ [p]) id = dropL l id ++ [p] := by simp [dropL, h]
theorem dropL_snoc_f {l : List Pt} {p : Pt} {id : Int} (h : p.id = id) : dropL (l ++ [p]) id = dropL l id := by simp [dropL, h]
theorem dropL_len (l : List Pt) (id : Int) : (dropL l id).length ≤ l.length := List.length_filter_le _ _
theorem dropL_full {l : List Pt} {id : Int} (h : (dropL l id).length = l.length) : ∀ p ∈ l, p.id ≠ id := by
  unfold dropL at h
  have h2 := (List.filter_sublist (p := fun p : Pt => decide (p.id ≠ id)) (l := l)).eq_of_length h
  intro p hp
  have := List.filter_eq_self.1 h2 p hp
  simpa using this
def RDropPost (w : World) (l : List Pt) (id : Int) (e : Ending) (w' : World) : Prop :=
  ∃ v, e = .returned (.tuple #[v, .int .i64 (dropE l id)]) ∧ (dropE l id ≠ 0 → v = .slice none 0 0) ∧ (dropE l id = 0 → ∃ A' c', v = .slice A' (dropL l id).length c' ∧ RdP w' w'.heap.size A' (dropL l id)) ∧ Below w.heap.size w w'
set_option maxRecDepth 100000 in
set_option maxHeartbeats 4000000 in
theorem rdrop_len (A : Option Addr) (n c : Nat) (id : Int) (l : List Pt) (w : World) (hl : l.length = n) (hA : RdP w w.heap.size A l) :
    Calls Try.prog 27 #[.slice A n c, .int .u64 id] w (RDropPost w l id) := by
  have HA := Lib.hid hA
  have HL := Lib.hid hl
  have HR := Lib.hid (rright_any A c l w hA)
  rw [hl] at HR
  clear hA hl
  go_enter Try.func27, Try.ntmps27
  go_wp2_with (fail)
  refine HR.out.mono ?_
  rintro e w1 ⟨rfl, hb1⟩
  have HB1 := Lib.hid hb1
  have hs1 := hb1.size
  clear hb1
  by_cases hr : RightP l
  · rw [rightB_t hr]
    have HRP := Lib.hid hr
    have hn16 : n ≤ 16 := by have := hr.1; rw [HL.out] at this; exact this
    clear hr
    go_wp2_with (fail)
    go_loopw [6, 7] (fun vo vi wr => ∃ i : Nat, i ≤ n ∧ vi = .int .i64 i ∧ wr.ownsRow w.heap.size 26 2 vo (dropL (l.take i) id).length (pcells (dropL (l.take i) id)) ∧ Below w.heap.size w wr) (fun _ i _ => n - (intOf i).toNat)
    case atStart => exact ⟨0, Nat.zero_le _, rfl, own_none _ _ _ _, HB1.out⟩
    case round =>
      obtain ⟨i, hin, rfl, hown, hbl⟩ := hrel
      have HOW := Lib.hid hown
      have HBL := Lib.hid hbl
      have hws := hbl.size
      clear hown hbl
      by_cases hi : i < n
      · have hi0 : (0 : Int) ≤ (i : Int) := by omega
        have hi1 : (i : Int) < (n : Int) := by omega
        obtain ⟨b, off, rfl, hbb, _, hc⟩ := HA.out.1 (by rw [HL.out]; omega)
        obtain ⟨a0, a1⟩ := hc i (by rw [HL.out]; exact hi)
        have hsn := take_snocP (l := l) (i := i) (by rw [HL.out]; exact hi)
        obtain ⟨p, hp⟩ : ∃ p, l.getD i zeroP = p := ⟨_, rfl⟩
        rw [hp] at a0 a1 hsn
        have HSN := Lib.hid hsn
        have a0 := (HBL.out.cell (p := ⟨b, off + i * 2, none⟩) hbb).trans a0
        have a1 := (HBL.out.cell (p := ⟨b, off + i * 2 + 1, none⟩) hbb).trans a1
        have hbw : b < wr.heap.size := by omega
        have hdl : Hid ((dropL (l.take i) id).length ≤ i) := Lib.hid (by have := dropL_len (l.take i) id; rw [List.length_take] at this; omega)
        clear hc hp hsn
        obtain ⟨pid, pfs, pA, pc⟩ := p
        dsimp only at a0 a1
        by_cases hid : pid = id
        · have HV : Hid (dropL (l.take (i + 1)) id = dropL (l.take i) id) := Lib.hid (by rw [HSN.out]; exact dropL_snoc_f hid)
          have HO2 : Hid (wr.ownsRow w.heap.size 26 2 u6 (dropL (l.take (i + 1)) id).length (pcells (dropL (l.take (i + 1)) id))) := Lib.hid (by rw [HV.out]; exact HOW.out)
          subst hid
          go_wp2_with (fail)
          go_roundw
          case rel => exact ⟨i + 1, by omega, by first | rfl | (push_cast; rfl) | go_num, HO2.out, HBL.out⟩
          case measure => simp [intOf]; omega
        · have HV : Hid (dropL (l.take (i + 1)) id = dropL (l.take i) id ++ [⟨pid, pfs, pA, pc⟩]) := Lib.hid (by rw [HSN.out]; exact dropL_snoc_t hid)
          have hnb : (pid != id) = true := by simpa using hid
          go_wp2_with ((at_builtin; refine Hid.out ?_))
          refine Lib.hid ?_
          have HB5 : Hid (Below wr.heap.size wr (wr.alloc (Obj.cells #[.int .u64 pid, .slice pA pfs.length pc] 26))) := Lib.hid ((Below.refl wr.heap.size wr).alloc (Nat.le_refl _) _)
          have HO5 := Lib.hid (own_new HOW.out HB5.out)
          have h2 := two_new wr (.int .u64 pid) (.slice pA pfs.length pc) 26
          refine wpList_append_p _ (by rfl) _ _ rfl w.heap.size _ _ (dropL (l.take i) id) rfl HO5.out (some ⟨wr.heap.size, 0, none⟩) 1 1 [⟨pid, pfs, pA, pc⟩] rfl rfl ?_ (fun h => by cases h) (by have := hdl.out; omega) (Nat.le_trans hws HB5.out.size) ?_
          · intro ad had j u hu
            cases had
            match j with
            | 0 =>
              have hu : some (Value.int .u64 pid) = some u := hu
              rw [← hu]
              exact h2.1
            | 1 =>
              have hu : some (Value.slice pA pfs.length pc) = some u := hu
              rw [← hu]
              exact h2.2
            | j + 2 => exact absurd hu (by simp [pcells])
          intro v6 w6 hown6 hg6
          have HO2 : Hid (w6.ownsRow w.heap.size 26 2 v6 (dropL (l.take (i + 1)) id).length (pcells (dropL (l.take (i + 1)) id))) := Lib.hid (by
            rw [HV.out, List.length_append]
            exact hown6)
          have HB6 : Hid (Below w.heap.size w w6) := Lib.hid ((HBL.out.trans (HB5.out.mono hws)).grown hg6 (Nat.le_trans hws HB5.out.size) (own_ge HOW.out))
          clear hown6 hg6 h2 hid
          go_wp2_with (fail)
          go_roundw
          case rel => exact ⟨i + 1, by omega, by first | rfl | (push_cast; rfl) | go_num, HO2.out, HB6.out⟩
          case measure => simp [intOf]; omega
      · have hine : n = i := by omega
        subst hine
        have hirr : ¬ (n : Int) < (n : Int) := by omega
        have ho : wr.ownsRow w.heap.size 26 2 u6 (dropL l id).length (pcells (dropL l id)) := by
          have := HOW.out
          rwa [List.take_of_length_le (by rw [HL.out]; exact Nat.le_refl _)] at this
        have hlen := dropL_len l id
        rw [HL.out] at hlen
        obtain ⟨A6, c6, rfl, hr6, _⟩ := own_rp ho rfl (fun p hp => by
          have hpl : p ∈ l := (List.mem_filter.1 hp).1
          exact ⟨((HA.out.2 p hpl).1.below HBL.out).more hws (Nat.le_refl _), (HA.out.2 p hpl).2⟩)
        have HR6 := Lib.hid hr6
        obtain ⟨k, hk⟩ : ∃ k, (dropL l id).length = k := ⟨_, rfl⟩
        have HK := Lib.hid hk
        rw [hk] at hlen ⊢
        clear ho hr6 hk HOW
        by_cases hkn : k = n
        · have HE : Hid (dropE l id = 4) := Lib.hid (dropE_4 HRP.out (dropL_full (by rw [HK.out, HL.out]; exact hkn)))
          subst hkn
          go_wp2_with (fail)
          go_ret2
          exact ⟨_, by rw [HE.out] <;> rfl, fun _ => rfl, fun h => by rw [HE.out] at h; omega, HBL.out⟩
        · have HE : Hid (dropE l id = 0) := Lib.hid (by
            by_cases h : ∃ p ∈ l, p.id = id
            · obtain ⟨p, hp, e⟩ := h
              exact dropE_0 HRP.out hp e
            · exact absurd (by rw [← HK.out, filter_all (fun p hp e => h ⟨p, hp, e⟩), HL.out]) hkn)
          have hne : ¬ (k : Int) = (n : Int) := by omega
          have hnb : ((k : Int) == (n : Int)) = false := by simpa using hne
          clear hkn
          go_wp2_with (fail)
          go_ret2
          exact ⟨_, by rw [HE.out] <;> rfl, fun h => absurd HE.out h, fun _ => ⟨A6, c6, by rw [HK.out] <;> rfl, HR6.out⟩, HBL.out⟩
  · have HE : Hid (dropE l id = 2) := Lib.hid (dropE_2 hr)
    rw [rightB_f hr]
    clear hr
    go_wp2_with (fail)
    go_ret2
    exact ⟨_, by rw [HE.out] <;> rfl, fun _ => rfl, fun h => by rw [HE.out] at h; omega, HB1.out⟩
theorem rdrop_any (A : Option Addr) (c : Nat) (id : Int) (l : List Pt) (w : World) (hA : RdP w w.heap.size A l) : Calls Try.prog 27 #[.slice A l.length c, .int .u64 id] w (RDropPost w l id) :=
  rdrop_len A l.length c id l w rfl hA
end Go.Proofs.Ytmalcekbhnkfgaa
