/- The contract of pile.add. Conditions: as the theorem states them. -/
import Derived.Test.YtlmnnbmihimedaaB0
namespace Go.Proofs.Ytlmnnbmihimedaa
open Go.RowKit
set_option linter.unusedVariables false
set_option linter.unusedSimpArgs false

theorem Shp.frozen {w w' : World} (h : Shp w w') {a : Addr} {v : Value} (hc : w.cell? a = some v) : w'.frozen? a = w.frozen? a := by
  unfold World.cell? at hc
  cases ho : w.heap[a.block]? with
  | none => simp [ho] at hc
  | some o =>
    cases o with
    | cells cur t fz =>
      obtain ⟨cur', h1, _⟩ := h _ _ _ _ ho
      simp [World.frozen?, h1, ho]
    | _ => simp [ho] at hc
theorem Heap.kw {w w' : World} {S : Nat → Prop} {B q : Nat} {v : Value} {bs : List Nat} {tm : Nat → Tm} {pl : Nat → Int} (h : Heap w B q v bs tm pl) (k : Kw S w w') (hq : ¬ S q) (hb : ∀ b ∈ bs, ¬ S b) (hg : ∀ g, v.ownBlock = some g → ¬ S g) : Heap w' B q v bs tm pl := by
  obtain ⟨l, h1, h2, lt, fz, row, it, ap, ne⟩ := h
  have hs := k.size
  refine ⟨(k.cell lt hq).trans l, (k.cell lt hq).trans h1, (k.cell lt hq).trans h2, by omega, (k.frozen lt hq).trans fz, ⟨row.1, ?_⟩, fun b hbm => ?_, ap, ne⟩
  · rcases row.2 with h0 | ⟨g, c, cur, hv, hB, hgc, r⟩
    · exact .inl h0
    · exact .inr ⟨g, c, cur, hv, hB, (k.block g (Array.getElem?_eq_some_iff.1 hgc).1 (hg g (by subst hv; rfl))).trans hgc, r⟩
  · obtain ⟨c0, c1, c2, c3, fz, lt⟩ := it b hbm
    have hh := hb b hbm
    exact ⟨(k.cell lt hh).trans c0, (k.cell lt hh).trans c1, (k.cell lt hh).trans c2, (k.cell lt hh).trans c3, (k.frozen lt hh).trans fz, by omega⟩
theorem ItemAt.kw {w w' : World} {S : Nat → Prop} {b : Nat} {x : Tm} {pl : Int} (h : ItemAt w b x pl) (k : Kw S w w') (hh : ¬ S b) : ItemAt w' b x pl := by
  obtain ⟨c0, c1, c2, c3, fz, lt⟩ := h
  have hs := k.size
  exact ⟨(k.cell lt hh).trans c0, (k.cell lt hh).trans c1, (k.cell lt hh).trans c2, (k.cell lt hh).trans c3, (k.frozen lt hh).trans fz, by omega⟩
theorem rowMono {w : World} {B n : Nat} {v : Value} {xs : List Value} (h : w.ownsRow B 65 1 v n xs) {w' : World} (hb : ∀ g, v.ownBlock = some g → w'.heap[g]? = w.heap[g]?) : w'.ownsRow B 65 1 v n xs := by
  refine ⟨h.1, ?_⟩
  rcases h.2 with h0 | ⟨g, c, cur, hv, hB, hgc, r⟩
  · exact .inl h0
  · exact .inr ⟨g, c, cur, hv, hB, (hb g (by subst hv; rfl)).trans hgc, r⟩
/-- A heap whose row's value is another, longer or shorter by some. -/
theorem Heap.store {w w1 : World} {B q : Nat} {v v1 : Value} {bs bs1 : List Nat} {tm : Nat → Tm} {pl : Nat → Int} (h : Heap w B q v bs tm pl) (hgr : w.grownBy w1 v.ownBlock) (hv1 : w1.ownsRow B 65 1 v1 bs1.length (bs1.map ptrV)) (hit : ∀ b ∈ bs1, ItemAt w b (tm b) (pl b) ∧ b ≠ q ∧ ∀ g, v.ownBlock = some g → b ≠ g)
    (hg1 : ∀ g, v1.ownBlock = some g → v.ownBlock = some g ∨ w.heap.size ≤ g) : Heap (w1.setCell ⟨q, 0, none⟩ v1) B q v1 bs1 tm pl := by
  obtain ⟨l, h1, h2, lt, fz, row, it, ap, ne⟩ := h
  have hs := hgr.size
  have hqb : w1.heap[q]? = w.heap[q]? := hgr.block q lt (fun e => (ap q e.symm).1 rfl)
  have hgq : ∀ g, v1.ownBlock = some g → g ≠ q := fun g hg => by
    rcases hg1 g hg with h | h
    · exact (ap g h).1
    · omega
  refine ⟨sc_same ((World.cell?_of_block (a := ⟨q, 0, none⟩) hqb).trans l), ?_, ?_, by simpa [World.setCell] using by omega, ?_, ?_, ?_, ?_, fun b hb => (hit b hb).2.1⟩
  · exact (sc_other (by intro e; cases e)).trans ((World.cell?_of_block (a := ⟨q, 1, none⟩) hqb).trans h1)
  · exact (sc_other (by intro e; cases e)).trans ((World.cell?_of_block (a := ⟨q, 2, none⟩) hqb).trans h2)
  · simpa using (World.frozen?_of_block (a := ⟨q, 0, none⟩) hqb).trans fz
  · exact rowMono hv1 (fun g hg => Below.heap_setCell w1 ⟨q, 0, none⟩ v1 g (hgq g hg))
  · intro b hb
    obtain ⟨hi, hbq, hbg⟩ := hit b hb
    have hbb : w1.heap[b]? = w.heap[b]? := hgr.block b hi.lt (fun e => hbg b e.symm rfl)
    have hi1 : ItemAt w1 b (tm b) (pl b) := by
      obtain ⟨c0, c1, c2, c3, fz, lt⟩ := hi
      exact ⟨(World.cell?_of_block (a := ⟨b, 0, none⟩) hbb).trans c0, (World.cell?_of_block (a := ⟨b, 1, none⟩) hbb).trans c1, (World.cell?_of_block (a := ⟨b, 2, none⟩) hbb).trans c2, (World.cell?_of_block (a := ⟨b, 3, none⟩) hbb).trans c3, (World.frozen?_of_block (a := ⟨b, 3, none⟩) hbb).trans fz, by omega⟩
    exact hi1.far (p := ⟨q, 0, none⟩) (fun e => hbq e.symm) v1
  · intro g hg
    refine ⟨hgq g hg, fun b hb => ?_⟩
    obtain ⟨hi, hbq, hbg⟩ := hit b hb
    have := hi.lt
    rcases hg1 g hg with h | h
    · exact hbg g h
    · omega
theorem own_slice {w : World} {B n : Nat} {v : Value} {xs : List Value} (h : w.ownsRow B 65 1 v n xs) (hn : 0 < n) : ∃ g c, v = .slice (some ⟨g, 0, none⟩) n c ∧ B ≤ g ∧ n ≤ c ∧ c ≤ maxLen ∧ ∃ cur : Array Value, w.heap[g]? = some (Obj.cells cur 65 (0, 0)) ∧ cur.size = c := by
  rcases h.2 with ⟨_, h0⟩ | ⟨g, c, cur, hv, hb, hg, hnc, hc, hs, ht⟩
  · omega
  · exact ⟨g, c, hv, hb, hnc, hc, cur, hg, by omega⟩
theorem upL_length (tm : Nat → Tm) (x : Nat) : ∀ (f : Nat) (bs : List Nat) (k : Nat), (upL tm x f bs k).length = bs.length
  | 0, bs, k => by simp [upL]
  | f + 1, bs, k => by
    simp only [upL]
    split
    · rw [upL_length tm x f]
      simp
    · simp
theorem i65 : (Try.prog.info? 65).map (fun i => (i.zero, i.size, i.bytes)) = some (some (.pointer none), 1, 8) := by kernel_rfl
theorem u51 : Try.prog.underlying 51 = some (.slice 65) := by kernel_rfl
set_option maxRecDepth 100000 in
set_option maxHeartbeats 1000000 in
theorem add_any (B q x : Nat) (v : Value) (bs : List Nat) (tm : Nat → Tm) (pl : Nat → Int) (w : World) (h : Heap w B q v bs tm pl) (hx : ItemAt w x (tm x) (pl x)) (hxq : x ≠ q) (hxg : ∀ g, v.ownBlock = some g → x ≠ g) (n : Nat) (hbn : bs.length = n) (hn : n ≤ 100000) (hB : B ≤ w.heap.size)
    (S : Nat → Prop) (hSq : S q) (hSx : S x) (hSb : ∀ b ∈ bs, S b) (hSg : ∀ g, v.ownBlock = some g → S g) (hSn : ∀ b, w.heap.size ≤ b → S b) (bs' : List Nat) (pl' : Nat → Int) (hb : upL tm x n (bs ++ [x]) n = bs') (hp : upP tm x n (bs ++ [x]) n pl = pl') :
    Calls Try.prog 37 #[.pointer (some ⟨q, 0, none⟩), .pointer (some ⟨x, 0, none⟩)] w fun e w' => e = .returned (.tuple #[]) ∧ ∃ v', Heap w' B q v' bs' tm pl' ∧ Kw S w w' ∧ (∀ g, v'.ownBlock = some g → v.ownBlock = some g ∨ w.heap.size ≤ g) ∧ ∀ i, i ≠ 0 → w'.cell? ⟨q, i, none⟩ = w.cell? ⟨q, i, none⟩ := by
  have H := Lib.hid h
  have HX := Lib.hid hx
  have HSB := Lib.hid hSb
  have HB := Lib.hid hb
  have HP := Lib.hid hp
  obtain ⟨i0, hi, hz0, hz1, hz2⟩ := info_parts i65
  obtain ⟨l0, _, _, ql, qf, row, _, hap, _⟩ := h
  have hqap : v.ownBlock ≠ some q := fun e => (hap q e).1 rfl
  have HQ : Hid (∀ (o : Obj) (w1 : World), (w.alloc o).grownBy w1 v.ownBlock → w1.cell? ⟨q, 0, none⟩ = some v ∧ w1.frozen? ⟨q, 0, none⟩ = false ∧ q < w1.heap.size) := Lib.hid fun o w1 hg => by
    have hqb := hg.block q (by simp; omega) (fun e => hqap e.symm)
    have hsz := hg.size
    have hk : Below w.heap.size w (w.alloc o) := bl_alloc (Below.refl _ _) o
    exact ⟨((World.cell?_of_block (a := ⟨q, 0, none⟩) hqb).trans (hk.cell (p := ⟨q, 0, none⟩) ql)).trans l0, ((World.frozen?_of_block (a := ⟨q, 0, none⟩) hqb).trans (hk.frozen (p := ⟨q, 0, none⟩) ql)).trans qf, by simp at hsz; omega⟩
  clear hqap hap
  rw [hbn] at row
  have HR := Lib.hid row
  clear row hx hSb hb hp
  go_enter Try.func37, Try.ntmps37
  go_wp2_with ((at_builtin; refine wpList_append_own_at _ rfl _ _ 51 rfl B 65 i0 (.pointer none) 1 8 u51 hi hz0 hz1 hz2 rfl (by decide) v n (bs.map ptrV) rfl (HR.out.alloc _) ⟨w.heap.size, 0, none⟩ 1 1 [.pointer (some ⟨x, 0, none⟩)] rfl rfl (cell_one_new _ _ _) (by intro u hu; simp at hu; subst hu; rfl) (by unfold maxLen; omega) (by omega) (by simp; omega) ?_; intro v1 w1 hown1 hgrow1 hnil1 hloc1; obtain ⟨g1, c1, rfl, hgB, hnc, hcm, cur, hcur, hcs⟩ := own_slice hown1 (by omega); have HOWN := Lib.hid hown1; have HGROW := Lib.hid hgrow1; have HLOC := Lib.hid hloc1; obtain ⟨hq1, hq2, hq3⟩ := HQ.out _ _ hgrow1; have HCUR := Lib.hid hcur; clear hown1 hgrow1 hloc1 hnil1 hcur))
  have hk0 : Kw (fun _ => False) w (w.alloc (Obj.cells #[.pointer (some ⟨x, 0, none⟩)] 65)) := Kw.ofBelow (bl_alloc (Below.refl _ _) _)
  have hH0 := H.out.kw hk0 (fun h => h) (fun _ _ h => h) (fun _ _ h => h)
  have hX0 := HX.out.kw hk0 (fun h => h)
  have hloc : ∀ g, (Value.slice (some ⟨g1, 0, none⟩) (n + 1) c1).ownBlock = some g → v.ownBlock = some g ∨ w.heap.size + 1 ≤ g := fun g hg => by
    rcases HLOC.out with h | h
    · exact .inl (h ▸ hg)
    · rw [hg] at h
      simp at h
      omega
  have hlen : (bs ++ [x]).length = n + 1 := by simp [hbn]
  have hrow : w1.ownsRow B 65 1 (.slice (some ⟨g1, 0, none⟩) (n + 1) c1) (bs ++ [x]).length ((bs ++ [x]).map ptrV) := by
    rw [hlen, List.map_append]
    exact HOWN.out
  have hH2 := hH0.store HGROW.out hrow (fun b hb => by
    rcases List.mem_append.1 hb with h | h
    · exact ⟨hH0.item b h, hH0.ne b h, fun g hg => (hH0.apart g hg).2 b h⟩
    · obtain rfl : b = x := by simpa using h
      exact ⟨hX0, hxq, fun g hg => hxg g hg⟩) (fun g hg => by have := hloc g hg; simp; omega)
  have hcur2 := Shp.setCell w1 ⟨q, 0, none⟩ (.slice (some ⟨g1, 0, none⟩) (n + 1) c1) g1 cur 65 (0, 0) HCUR.out
  obtain ⟨cur2, hcur2, hcs2⟩ := hcur2
  have hP2 := hH2.pile hlen (by omega)
  have hk2 : Kw S w (w1.setCell ⟨q, 0, none⟩ (.slice (some ⟨g1, 0, none⟩) (n + 1) c1)) := (((Kw.refl S w).alloc _).grown HGROW.out hSg).setCell hSq _
  have hSg1 : S g1 := by
    rcases hloc g1 rfl with h | h
    · exact hSg g1 h
    · exact hSn g1 (by omega)
  have hxn : (bs ++ [x]).getD n 0 = x := by
    rw [List.getD_eq_getElem?_getD, ← hbn]
    simp
  refine (up_any q g1 c1 n (bs ++ [x]) tm pl _ hP2 (by omega) (by omega) (fun b => S b ∧ b ≠ q) ⟨hSg1, hP2.gq⟩ (fun b hb => ⟨?_, (hP2.ne b hb).2⟩) bs' pl' (by rw [hxn]; exact HB.out) (by rw [hxn]; exact HP.out)).mono ?_
  · rcases List.mem_append.1 hb with h | h
    · exact HSB.out b h
    · obtain rfl : b = x := by simpa using h
      exact hSx
  rintro e w3 ⟨rfl, hP3, hk3⟩
  have hfz3 : w3.frozen? ⟨q, 0, none⟩ = false := by
    exact (hk3.shape.frozen hH2.l).trans hH2.fz
  go_wp2
  go_end0
  obtain ⟨cur3, hcur3, hcs3⟩ := hk3.shape g1 cur2 65 (0, 0) hcur2
  have hl3 : bs'.length = n + 1 := by rw [← HB.out, upL_length, hlen]
  refine ⟨rfl, _, hP3.heap hl3 hfz3 hgB hnc hcm hcur3 (by omega), hk2.trans (hk3.toKw.mono (fun b _ h => h.1)), fun g hg => ?_, fun i hi => ?_⟩
  · rcases hloc g hg with h | h
    · exact .inl h
    · exact .inr (by omega)
  · have e1 := hk3.toKw.cell (b := q) (i := i) hH2.lt (fun h => h.2 rfl)
    have hqb := HGROW.out.block q (by simp; omega) (fun e => (H.out.apart q e.symm).1 rfl)
    exact e1.trans ((sc_other (by intro e; cases e; exact hi rfl)).trans ((World.cell?_of_block (a := ⟨q, i, none⟩) hqb).trans (hk0.cell ql (fun h => h))))
end Go.Proofs.Ytlmnnbmihimedaa
