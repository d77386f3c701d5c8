/- slices.Sorted(maps.Keys(m)) at this program. Conditions: as each theorem states them. -/
import Derived.Test.YtjgiohlkpenipaaB0
import Derived.Test.YtjgiohlkpenipaaSh
namespace Go.Proofs
open Go.RowKit Go.Maps Go.Sort Go.Shelf
set_option linter.unusedVariables false
set_option linter.unusedSimpArgs false

namespace Ytjgiohlkpenipaa
theorem clone_any (w : World) (m : Nat) (l : Dir) (bk : Nat → Nat) (D : DataW Unit) (h : MapAt w m l bk D) :
    Calls Try.prog 39 #[.map (some m)] w fun e w' => e = .returned (.map (some w.heap.size)) ∧ MapAt w' w.heap.size l bk D ∧ Below w.heap.size w w' ∧ w'.heap.size = w.heap.size + 1 := by
  obtain ⟨es, clock, hb, F, hs, hD⟩ := h.own
  refine (AnyW.maps_Clone Try.cloneM m es clock w hb).mono fun e w' ⟨he, hw⟩ => ?_
  subst hw
  refine ⟨he, ⟨h.ok, h.nd, ⟨es, clock, (MapKept.heap_alloc w _).1, F, hs, hD⟩, h.sz, h.at_, h.no⟩, (Below.refl _ w).alloc (Nat.le_refl _) _, by simp⟩
set_option maxRecDepth 100000 in
set_option maxHeartbeats 1000000 in
theorem rename_do (L : Lay) (s : DS) (n to : ByteArray) (bd bn bt : Nat) (i : Nat) (w : World) (h : DAt w L s) (ok : OkS s) (hn : okN n) (ht : named to) (hl : look s.dir n = some i) (hd : Box w bd (dP L) 24) (hb : Box w bn (.string n) 9) (hbt : Box w bt (.string to) 9) :
    Calls Try.prog 41 #[ptrV bd, ptrV bn, ptrV bt] w (DoR w L s (s.chg ⟨n, to, i⟩)) := by
  have c0 := hd.cell
  have c1 := hb.cell
  have c2 := hbt.cell
  have l0 := hd.lt
  have l1 := hb.lt
  have l2 := h.lt
  have l3 := hbt.lt
  have H := Lib.hid h
  have hi : s.has i := .inl ⟨n, look_some hl⟩
  have c3 := h.c.2.2.2.2.1
  obtain ⟨D, hD⟩ := h.drew.dirm
  have hlk := hD.look hn
  rw [hl] at hlk
  unfold optV at hlk
  dsimp only at hlk
  have hce := changes_any L s ⟨n, to, i⟩ w.drew h.drew hn (okN_named ht) (by have := ok.dl; have := ok.st; unfold maxLen; omega) (by have := ok.kl; have := ok.st; omega) (fun _ => ⟨(h.drew.file i hi).1, (h.file i hi).2, fun j hj e => h.inj j i hj hi e⟩)
  have HC := Lib.hid hce
  unfold chV chP at HC
  dsimp only at HC
  rw [if_neg (named_ne ht)] at HC
  have HI := Lib.hid hi
  clear h hce ok hd hb hbt hD hl hi
  unfold dP ptrV at *
  go_enter Try.func41, Try.ntmps41
  go_wp2_with (fail)
  go_still_tail 10, (by kernel_rfl)
  change wpList _ _ _ _ _ w.drew
  have HBD : Hid (Below w.heap.size w w.drew) := Lib.hid (Below.refl _ _).drew
  clear hlk c0 c1 c2 c3
  generalize w.drew = w1 at *
  go_wp2_with (fail)
  refine HC.out.mono ?_
  rintro r w' ⟨rfl, v', hd', hk', hv'⟩
  go_wp2_with (fail)
  go_end0
  refine DoR.ofChg H.out ⟨rfl, rfl, rfl, rfl⟩ HBD.out rfl rfl hd' hk' hv' (fun j hj => ?_)
  rcases has_chg hj with h | ⟨_, h⟩
  · exact .inl ⟨h, rfl⟩
  · have h : i = j := h
    subst h
    exact .inl ⟨HI.out, rfl⟩
theorem cell_oth (w : World) (b k i : Nat) (v : Value) (h : k ≠ i) : (w.setCell ⟨b, k, none⟩ v).cell? ⟨b, i, none⟩ = w.cell? ⟨b, i, none⟩ := by
  have hne : (⟨b, k, none⟩ : Addr) ≠ ⟨b, i, none⟩ := by simp [h]
  exact World.cell?_setCell_other w _ _ _ hne
/-- A disk whose directory was made sure. -/
def DS.sync (s : DS) : DS := { s with kept := s.dir, waits := [] }
theorem DoR.ofSync {w w2 w4 : World} {L : Lay} {s : DS} {r : Ending} {m : Nat} (h : DAt w L s) (hb : Below w.heap.size w w2) (hm : w.heap.size ≤ m) (hD : ∃ D, MapAt w2 m s.dir L.bk D) (hr : r = .returned (.tuple #[]))
    (h60 : w4.heap[L.d]? = some (Obj.cells (dcells { L with mq := m, v := .slice none 0 0 } s.sync) 60)) (hk : Kw (fun b => b = L.d) w2 w4) : DoR w L s s.sync r w4 := by
  obtain ⟨p1, p2, p3, p4⟩ := h.apart
  have k : Kw (fun b => b = L.d) w w4 := (Kw.ofBelow hb).trans hk
  have hh : ∀ i, s.sync.has i → s.has i := fun i hi => by
    rcases hi with ⟨n, h⟩ | ⟨n, h⟩ | ⟨c, hc, _⟩
    · exact .inl ⟨n, h⟩
    · exact .inl ⟨n, h⟩
    · cases hc
  have hlt := h.lt
  refine ⟨hr, { L with mq := m, v := .slice none 0 0 }, rfl, ⟨h60, ?_, ?_, ⟨rfl, .inl ⟨rfl, rfl⟩⟩, fun i hi => ⟨(h.file i (hh i hi)).1.kw k (p3 i (hh i hi)).1, (h.file i (hh i hi)).2⟩, fun i j hi hj => h.inj i j (hh i hi) (hh j hj), ?_, fun c hc => by cases hc⟩, k.mono (fun b _ e => .inl e), fun b hb => ?_⟩
  · obtain ⟨D, hD⟩ := h.dirm
    exact ⟨D, hD.kw k (fun e => p1 e.symm)⟩
  · obtain ⟨D, hD⟩ := hD
    exact ⟨D, hD.kw hk (fun e => by omega)⟩
  · obtain ⟨D, hD⟩ := h.dirm
    have := hD.lt
    show L.md ≠ m
    omega
  · rcases hb with e | e | e | ⟨i, hi, e⟩ | e
    · exact .inl (.inl e)
    · exact .inl (.inr (.inl e))
    · exact .inr (by have e : b = m := e; omega)
    · exact .inl (.inr (.inr (.inr (.inl ⟨i, hh i hi, e⟩))))
    · cases e
set_option maxRecDepth 100000 in
set_option maxHeartbeats 1000000 in
theorem syncdir_do (L : Lay) (s : DS) (bd : Nat) (w : World) (h : DAt w L s) (hd : Box w bd (dP L) 24) (hbd : bd ≠ L.d) :
    Calls Try.prog 38 #[ptrV bd] w (DoR w L s s.sync) := by
  have c0 := hd.cell
  have l0 := hd.lt
  have l2 := h.lt
  have H := Lib.hid h
  have c4 := h.c.2.2.2.2.1
  obtain ⟨D, hD⟩ := h.drew.dirm
  have HC := Lib.hid (clone_any w.drew L.md s.dir L.bk D hD)
  have HCC : Hid (∀ w2, Below w.drew.heap.size w.drew w2 → w2.cell? ⟨bd, 0, none⟩ = some (dP L) ∧ w2.cell? ⟨L.d, 4, none⟩ = some (.map (some L.md)) ∧ w2.cell? ⟨L.d, 5, none⟩ = some (.map (some L.mq)) ∧ w2.cell? ⟨L.d, 6, none⟩ = some L.v ∧ w2.frozen? ⟨L.d, 5, none⟩ = false ∧ w2.frozen? ⟨L.d, 6, none⟩ = false ∧ L.d < w2.heap.size) := Lib.hid (fun w2 hb => by
    have h2 := h.drew.below hb
    exact ⟨(hb.cell (p := ⟨bd, 0, none⟩) l0).trans c0, h2.c.2.2.2.2.1, h2.c.2.2.2.2.2.1, h2.c.2.2.2.2.2.2, h2.fz 5, h2.fz 6, h2.lt⟩)
  clear h hd hD
  unfold dP ptrV at *
  go_enter Try.func38, Try.ntmps38
  go_wp2_with (fail)
  go_region_held3 (fun z => z.cell? ⟨bd, 0, none⟩ = some (.pointer (some ⟨L.d, 0, none⟩)) ∧ z.cell? ⟨L.d, 4, none⟩ = some (.map (some L.md)))
    (first | exact ⟨c0, c4⟩ | exact ⟨s0, s4⟩ | exact ⟨(World.cell?_setCell_far _ _ _ _ hbd.symm).trans s0, (cell_oth _ _ _ _ _ (by decide)).trans s4⟩ | exact ⟨(World.cell?_setCell_far _ _ _ _ hbd.symm).trans ((World.cell?_setCell_far _ _ _ _ hbd.symm).trans s0), (cell_oth _ _ _ _ _ (by decide)).trans ((cell_oth _ _ _ _ _ (by decide)).trans s4)⟩)
    ((first | (go_at_call 39; refine HC.out.mono ?_; rintro e w2 ⟨rfl, hD2, hb2, hz2⟩; obtain ⟨s0, s4, s5, s6, f5, f6, sl⟩ := HCC.out w2 hb2)))
  go_wp2_with (fail)
  go_end0
  refine DoR.ofSync H.out ((Below.refl w.heap.size w).drew.trans hb2) (Nat.le_refl _) ⟨D, hD2⟩ rfl (set_heap (set_heap ((hb2.block L.d l2).trans H.out.cells))) (((Kw.refl (fun b => b = L.d) w2).setCell (p := ⟨L.d, _, none⟩) rfl _).setCell (p := ⟨L.d, _, none⟩) rfl _)
end Ytjgiohlkpenipaa
end Go.Proofs
namespace Go.Proofs
open Go.RowKit Go.Maps Go.Sort Go.Shelf
set_option linter.unusedVariables false
set_option linter.unusedSimpArgs false

namespace Ytjgiohlkpenipaa
theorem sorts45 (m : Nat) : AnyZ.SortsIn Try.prog Try.sortedM_ren Fence.wide m :=
  ⟨fun blk off cap ss W hH hblk hsz => callsIn_wide.2 (AnyM.slices_Sort_string Try.sortM blk off cap ss W hH hblk hsz),
   fun p cap W => callsIn_wide.2 (AnyM.slices_Sort_string_none Try.sortM p cap W)⟩
theorem keys_any (mb : Option Nat) (W : World) : Calls Try.prog 46 #[.map mb] W fun e w' => e = .returned (.func (.func 70) #[] #[.pointer (some ⟨W.heap.size, 0, none⟩)]) ∧ w' = W.alloc (.cells #[.map mb] 57) :=
  callsIn_wide.1 (AnyZ.keys_in Try.keysM Fence.wide 5 trivial rfl mb W)
set_option maxHeartbeats 1000000 in
theorem sorted_any (b nn : Nat) (D0 : DataW Unit) (w : World) (hown : w.ownsMap Try.prog 9 RQ b nn D0) (hmax : Maps.size D0 ≤ maxLen) (hbytes : Maps.size D0 * 16 ≤ 140737488355328) :
    Calls Try.prog 45 #[.func (.func 70) #[] #[.pointer (some ⟨w.heap.size, 0, none⟩)]] (w.alloc (.cells #[.map (some b)] 57)) fun e w' => ∃ (v : Value) (ss : List (List UInt8)), e = .returned v ∧ ss.Perm (strKeys D0) ∧
      w'.ownsRow (w.alloc (.cells #[.map (some b)] 57)).heap.size 9 1 v ss.length ((ss.mergeSort (fun x y => decide (x ≤ y))).map encStr) ∧ (v = .slice none 0 0 ↔ ss = []) ∧ Below (w.alloc (.cells #[.map (some b)] 57)).heap.size (w.alloc (.cells #[.map (some b)] 57)) w' := by
  have hbl := hown.lt
  have hseq : SeqGives Fence.wide 2 Try.prog 70 #[.pointer (some ⟨w.heap.size, 0, none⟩)] encStr (fun ss => ss.Perm (strKeys D0)) (Maps.size D0) (w.alloc (.cells #[.map (some b)] 57)) :=
    AnyZ.keys_gives (ρ := Try.keysM_ren) { Try.keysM with } Fence.wide _ trivial rfl (by omega) w.heap.size b nn D0 _ (by simp) (by simp) (by
      obtain ⟨es, clock, hb, Ft, hs, hD⟩ := hown
      exact ⟨es, clock, (Below.heap_alloc _ _ b hbl).trans hb, Ft, hs, hD⟩)
  exact callsIn_wide.1 (AnyZ.sorted_in Try.sortedM Fence.wide 5 trivial trivial trivial trivial rfl (by omega) (sorts45 _) (enters_of Try.func69 (by kernel_rfl) rfl) 70 #[.pointer (some ⟨w.heap.size, 0, none⟩)] trivial (enters_of Try.func70 (by kernel_rfl) rfl) _ _ hmax hbytes _ hseq)
end Ytjgiohlkpenipaa
end Go.Proofs
