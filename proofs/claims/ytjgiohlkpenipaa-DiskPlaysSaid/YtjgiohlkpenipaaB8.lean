/- Contract of Crash. Conditions: as each theorem states them. -/
import Derived.Test.YtjgiohlkpenipaaB7
namespace Go.Proofs.Ytjgiohlkpenipaa
open Go.RowKit Go.Maps
set_option linter.unusedVariables false
set_option linter.unusedSimpArgs false

theorem chooser_any (A : Option Addr) (n c : Nat) (W : World) : Calls Try.prog 43 #[.slice A n c] W fun e w' => e = .returned (.func (.func 67) #[] #[ptrV W.heap.size]) ∧ Box w' W.heap.size (.slice A n c) 22 ∧ Below W.heap.size W w' ∧ w'.heap.size = W.heap.size + 1 := by
  have x0 : Box (W.alloc (Obj.cells #[.slice A n c] 22)) W.heap.size (.slice A n c) 22 := Box.new W _ _
  have hb : Below W.heap.size W (W.alloc (Obj.cells #[.slice A n c] 22)) := bl_alloc (Below.refl _ _) _
  have X := Lib.hid (And.intro x0 hb)
  clear x0 hb
  unfold ptrV at *
  go_enter Try.func43, Try.ntmps43
  go_wp2_with (fail)
  go_ret
  exact ⟨rfl, X.out.1, X.out.2, by simp⟩
/-- The waiting changes, as they lie. -/
theorem row_form {w : World} {v : Value} {bk : Nat → Nat} {l : List Ch} (h : w.ownsRow 0 68 3 v l.length (wcells bk l)) : ∃ B c, v = .slice B l.length c ∧ l.length ≤ c ∧ (0 < l.length → ∃ g, B = some ⟨g, 0, none⟩ ∧ g < w.heap.size ∧ v.ownBlock = some g ∧ ∀ i, i < l.length →
    w.cell? ⟨g, i * 3, none⟩ = some (.string (l.getD i zeroC).frm) ∧ w.cell? ⟨g, i * 3 + 1, none⟩ = some (.string (l.getD i zeroC).to) ∧ w.cell? ⟨g, i * 3 + 2, none⟩ = some (chP bk (l.getD i zeroC))) := by
  obtain ⟨hl, h0 | ⟨g, c, cur, rfl, _, hg, hnc, _, hsz, ht⟩⟩ := h
  · obtain ⟨rfl, h0⟩ := h0
    exact ⟨none, 0, by rw [h0], by omega, fun hn => by omega⟩
  · refine ⟨_, c, rfl, hnc, fun hn => ⟨g, rfl, (Array.getElem?_eq_some_iff.1 hg).1, rfl, fun i hi => ?_⟩⟩
    have hx : ∀ j u, j < l.length * 3 → (wcells bk l)[j]? = some u → w.cell? ⟨g, j, none⟩ = some u := fun j u hj hu => by
      rw [cell_of hg j, ← Array.getElem?_toList]
      rw [← ht, List.getElem?_take_of_lt hj] at hu
      exact hu
    obtain ⟨y0, y1, y2⟩ := wcells_at bk l i hi
    exact ⟨hx _ _ (by omega) y0, hx _ _ (by omega) y1, hx _ _ (by omega) y2⟩
theorem DAt.setKept {w w' : World} {L : Lay} {s : DS} (h : DAt w L s) (hk : Kw (fun b => b = L.mq) w w') {l : Dir} (hm : ∃ D, MapAt w' L.mq l L.bk D) (hsub : ∀ n i, (n, i) ∈ l → s.has i) : DAt w' L { s with kept := l } := by
  obtain ⟨p1, p2, p3, p4⟩ := h.apart
  have hh : ∀ i, DS.has { s with kept := l } i → s.has i := fun i hi => by
    rcases hi with ⟨n, h⟩ | ⟨n, h⟩ | h
    · exact .inl ⟨n, h⟩
    · exact hsub n i h
    · exact .inr (.inr h)
  refine ⟨(hk.block L.d h.lt p2).trans h.cells, ?_, hm, own_kw h.row hk (fun g hg => (p4 g hg).2.2.1), fun i hi => ⟨(h.file i (hh i hi)).1.kw hk (p3 i (hh i hi)).2.2, (h.file i (hh i hi)).2⟩, fun i j hi hj => h.inj i j (hh i hi) (hh j hj), h.mdq, h.okw⟩
  obtain ⟨D, hD⟩ := h.dirm
  exact ⟨D, hD.kw hk h.mdq⟩
theorem encStr_name (n : ByteArray) : Go.Proofs.encStr n.data.toList = .string n := by
  unfold Go.Proofs.encStr
  simp
def zeroN : ByteArray × Nat := (ByteArray.empty, 0)
/-- The names of a directory, as they lie. -/
def NamesAt (w : World) (lo : Nat) (B : Option Addr) (l : Dir) : Prop := 0 < l.length → ∃ g, B = some ⟨g, 0, none⟩ ∧ lo ≤ g ∧ g < w.heap.size ∧ ∀ j, j < l.length → w.cell? ⟨g, j, none⟩ = some (.string (l.getD j zeroN).1)
theorem sorted_names {w : World} {m : Nat} {l : Dir} {bk : Nat → Nat} {D : DataW Unit} (h : MapAt w m l bk D) (hs : srt l) (hl : l.length ≤ 1000000) :
    Calls Try.prog 45 #[.func (.func 70) #[] #[.pointer (some ⟨w.heap.size, 0, none⟩)]] (w.alloc (.cells #[.map (some m)] 57)) fun e w' => ∃ B c, e = .returned (.slice B l.length c) ∧ l.length ≤ c ∧ NamesAt w' w.heap.size B l ∧ Below w.heap.size w w' := by
  refine (sorted_any m l.length D w h.own (by rw [h.sz]; unfold maxLen; omega) (by rw [h.sz]; omega)).mono ?_
  rintro e w' ⟨v, ss, rfl, hss, hown, _, hb⟩
  have hlen : ss.length = l.length := by rw [hss.length_eq, ← h.perm_keys.length_eq, List.length_map]
  rw [h.sorted hs hss, hlen] at hown
  have hb' : Below w.heap.size w w' := ((Below.refl _ w).alloc (Nat.le_refl _) _).trans (hb.mono (by simp))
  obtain ⟨hxl, h0 | ⟨g, c, cur, rfl, hg0, hg, hnc, _, hsz, ht⟩⟩ := hown
  · obtain ⟨rfl, h0⟩ := h0
    exact ⟨none, 0, by rw [h0], by omega, fun hn => by omega, hb'⟩
  · refine ⟨_, c, rfl, hnc, fun hn => ⟨g, rfl, by simp at hg0; omega, (Array.getElem?_eq_some_iff.1 hg).1, fun j hj => ?_⟩, hb'⟩
    rw [cell_of hg j, ← Array.getElem?_toList]
    have h1 : (cur.toList.take (l.length * 1))[j]? = cur.toList[j]? := List.getElem?_take_of_lt (by omega)
    rw [← h1, ht, List.getElem?_map, List.getElem?_map, List.getElem?_eq_getElem hj, List.getD_eq_getElem?_getD, List.getElem?_eq_getElem hj]
    simp only [Option.map_some, Option.getD_some]
    first | done | rw [encStr_name]
/-- Files are sure of no more than they have, and not too long. -/
def OkF (s : DS) : Prop := ∀ i, (s.file i).sure ≤ (s.file i).data.size ∧ (s.file i).data.size ≤ 3000000000
theorem cutF_ok {cs : List Int} {f : Fl} (h : f.sure ≤ f.data.size ∧ f.data.size ≤ 3000000000) : (cutF cs f).1.sure ≤ (cutF cs f).1.data.size ∧ (cutF cs f).1.data.size ≤ 3000000000 := by
  unfold cutF
  split
  · have := pick_lt cs (n := f.data.size - f.sure + 1) (by omega)
    simp
    omega
  · exact h
theorem OkF.setF {s : DS} (h : OkF s) {i : Nat} {f : Fl} (hf : f.sure ≤ f.data.size ∧ f.data.size ≤ 3000000000) (hi : i < s.files.length) : OkF (s.setF i f) := fun j => by
  rw [file_set hi]
  split
  · exact hf
  · exact h j
theorem cutAll_snoc (p : ByteArray × Nat) : ∀ (l : Dir) (s : DS) (cs : List Int), cutAll (l ++ [p]) s cs = ((cutAll l s cs).1.setF p.2 (cutF (cutAll l s cs).2 ((cutAll l s cs).1.file p.2)).1, (cutF (cutAll l s cs).2 ((cutAll l s cs).1.file p.2)).2)
  | [], s, cs => rfl
  | q :: l, s, cs => cutAll_snoc p l _ _
theorem cutAll_dir : ∀ (l : Dir) (s : DS) (cs : List Int), (cutAll l s cs).1.kept = s.kept ∧ (cutAll l s cs).1.dir = s.dir ∧ (cutAll l s cs).1.waits = s.waits ∧ (cutAll l s cs).1.files.length = s.files.length
  | [], s, cs => ⟨rfl, rfl, rfl, rfl⟩
  | q :: l, s, cs => by
    obtain ⟨h1, h2, h3, h4⟩ := cutAll_dir l (s.setF q.2 (cutF cs (s.file q.2)).1) (cutF cs (s.file q.2)).2
    exact ⟨h1, h2, h3, h4.trans (by simp [DS.setF])⟩
theorem cutAll_len : ∀ (l : Dir) (s : DS) (cs : List Int), (cutAll l s cs).2.length ≤ cs.length
  | [], s, cs => Nat.le_refl _
  | p :: l, s, cs => by
    refine Nat.le_trans (cutAll_len l _ _) ?_
    unfold cutF
    split
    · simp
    · exact Nat.le_refl _
theorem setF_same {s : DS} {i : Nat} {f : Fl} (h : s.file i = f) (hi : i < s.files.length) : s.setF i f = s := by
  have e : s.files.set i f = s.files := by
    rw [← h]
    unfold DS.file
    rw [List.getD_eq_getElem?_getD, List.getElem?_eq_getElem hi]
    exact List.set_getElem_self hi
  unfold DS.setF
  rw [e]
theorem DoR.ofBoot {w wr w2 w4 : World} {L : Lay} {s s2 : DS} {r : Ending} {m : Nat} (h : DAt w L s) (hd : DAt wr L s2) (hsub : ∀ i, s2.has i → s.has i) (hkw : Kw (fun b => Foot L s b ∨ w.heap.size ≤ b) w wr) (hb : Below wr.heap.size wr w2) (hm : wr.heap.size ≤ m)
    (hD : ∃ D, MapAt w2 m s2.kept L.bk D) (hr : r = .returned (.tuple #[])) (h60 : w4.heap[L.d]? = some (Obj.cells (dcells { L with md := m, v := .slice none 0 0 } s2.boot) 60)) (hk : Kw (fun b => b = L.d) w2 w4) : DoR w L s s2.boot r w4 := by
  obtain ⟨p1, p2, p3, p4⟩ := hd.apart
  have k : Kw (fun b => b = L.d) wr w4 := (Kw.ofBelow hb).trans hk
  have hh : ∀ i, s2.boot.has i → s2.has i := fun i hi => by
    rcases hi with ⟨n, h⟩ | ⟨n, h⟩ | ⟨c, hc, _⟩
    · exact .inr (.inl ⟨n, h⟩)
    · exact .inr (.inl ⟨n, h⟩)
    · cases hc
  have hlt := hd.lt
  have hz := hkw.size
  refine ⟨hr, { L with md := m, v := .slice none 0 0 }, rfl, ⟨h60, ?_, ?_, ⟨rfl, .inl ⟨rfl, rfl⟩⟩, fun i hi => ⟨(hd.file i (hh i hi)).1.kw k (p3 i (hh i hi)).1, (hd.file i (hh i hi)).2⟩, fun i j hi hj => hd.inj i j (hh i hi) (hh j hj), ?_, fun c hc => by cases hc⟩, ?_, fun b hb => ?_⟩
  · obtain ⟨D, hD⟩ := hD
    exact ⟨D, hD.kw hk (fun e => by omega)⟩
  · obtain ⟨D, hD⟩ := hd.keptm
    exact ⟨D, hD.kw k (fun e => p2 e.symm)⟩
  · obtain ⟨D, hD⟩ := hd.keptm
    have := hD.lt
    show m ≠ L.mq
    omega
  · refine (hkw.trans (k.mono (fun b _ e => .inl (.inl e)))).mono (fun b hb hS => ?_)
    rcases hS with h | h
    · exact h
    · omega
  · rcases hb with e | e | e | ⟨i, hi, e⟩ | e
    · exact .inl (.inl e)
    · exact .inr (by have e : b = m := e; omega)
    · exact .inl (.inr (.inr (.inl e)))
    · exact .inl (.inr (.inr (.inr (.inl ⟨i, hsub i (hh i hi), e⟩))))
    · cases e
set_option maxRecDepth 100000 in
set_option maxHeartbeats 8000000 in
theorem crash_any (L : Lay) (s : DS) (cs : List Int) (A : Option Addr) (c : Nat) (w : World) (h : DAt w L s) (ok : OkS s) (hsr : srt s.kept) (hA : RdC w A cs) (hc : cs.length ≤ c) (hoff : 0 < cs.length → ∀ a, A = some a → a.block < w.heap.size ∧ ¬ Foot L s a.block) :
    Calls Try.prog 16 #[dP L, .slice A cs.length c] w (DoR w L s (s.crash cs)) := by
  have HR := Lib.hid (ready_any L s w h)
  have H := Lib.hid h
  have OK := Lib.hid ok
  have HSR := Lib.hid hsr
  have HA := Lib.hid hA
  have HOFF := Lib.hid hoff
  have hlt := h.lt
  obtain ⟨m, hm⟩ : ∃ m, cs.length = m := ⟨_, rfl⟩
  have HM := Lib.hid hm
  obtain ⟨e, he, hne⟩ : ∃ e : Int, (if s.down then (9 : Int) else 0) = e ∧ ¬ e = 1 := ⟨_, rfl, by split <;> decide⟩
  rw [he] at HR
  rw [hm] at hc ⊢
  have HCHR := Lib.hid (chooser_any A m c w)
  obtain ⟨nw, hnw⟩ : ∃ nw, s.waits.length = nw := ⟨_, rfl⟩
  have HNW := Lib.hid hnw
  have hnwb : nw ≤ 1000000 := by have := ok.kl; have := ok.st; omega
  clear h ok hsr hA hoff he hm hnw
  unfold dP ptrV at *
  go_enter Try.func16, Try.ntmps16
  go_wp2_with (fail)
  refine HR.out.mono ?_
  rintro r w' ⟨rfl, rfl⟩
  go_wp2_with (fail)
  refine HCHR.out.mono ?_
  rintro r w1 ⟨rfl, hbx, hb1, hz1⟩
  have HB1 := Lib.hid hb1
  have H1 := Lib.hid (H.out.below hb1)
  have HBX := Lib.hid hbx
  have hlt1 := Nat.lt_of_lt_of_le hlt hb1.size
  obtain ⟨B, cw, hv, hcw, hrow⟩ := row_form H1.out.row
  have a6 := H1.out.c.2.2.2.2.2.2
  rw [hv] at a6
  rw [HNW.out] at a6 hcw
  have HV := Lib.hid hv
  have HROW := Lib.hid hrow
  have hch := choose_any w.heap.size (nw + 1) c cs A w1.drew (by rw [HM.out]; exact hbx.below (Below.refl _ _).drew) ((HA.out.below hb1).below (Below.refl _ _).drew) (by rw [HM.out]; exact hc) (fun hpos a ha e => by
    have := (HOFF.out hpos a ha).1
    omega) (by omega) (by omega)
  push_cast at hch
  have HCH := Lib.hid hch
  obtain ⟨k, hk⟩ : ∃ k, pick cs (nw + 1) = k := ⟨_, rfl⟩
  have hkl : k ≤ nw := by
    have := pick_lt cs (n := nw + 1) (by omega)
    omega
  have HK := Lib.hid hk
  have hki : (k : Int) ≤ (nw : Int) := by omega
  have hkc : (k : Int) ≤ (cw : Int) := by omega
  have hnwi : (nw : Int) + 1 < 9223372036854775808 := by omega
  have hne2 : L.d ≠ w.heap.size := by omega
  have HWR : Hid (IntKind.i64.wrap ((nw : Int) + 1) = (nw : Int) + 1) := Lib.hid (IntWalk.i64_in _ (by omega))
  unfold ptrV at HCH
  clear hb1 hbx hrow hch hv hk HR HCHR
  go_wp2_with (fail)
  go_region_held3 (fun z => z.cell? ⟨L.d, 6, none⟩ = some (.slice B nw cw))
    (first | exact a6 | exact (hk2.cell (i := 6) hlt1 hne2).trans a6)
    ((first | (go_at_call 67; rw [HWR.out]; refine HCH.out.mono ?_; rintro r w2 ⟨rfl, A2, c2, hbx2, hc2, hrd2, hao2, hk2⟩; rw [HK.out])))
  rename_i hHeld
  clear hHeld
  have HBX2 := Lib.hid hbx2
  have HRD2 := Lib.hid hrd2
  have HAO2 := Lib.hid hao2
  have hbn : ¬ Foot L s w.heap.size := off_foot (W := w) H.out (Nat.le_refl _)
  have hd2 : DAt w2 L s := (H1.out.below (Below.refl _ _).drew).kw hk2 (fun b hb e => hbn (e ▸ hb))
  have HD2 := Lib.hid hd2
  have HK2 := Lib.hid hk2
  have hz2 := hk2.size
  have hz2 : w1.heap.size ≤ w2.heap.size := hz2
  have hlt2 : L.d < w2.heap.size := hd2.lt
  obtain ⟨Dk, hDk⟩ := hd2.keptm
  have HOWS : Hid (∀ i, i < nw → okN (s.waits.getD i zeroC).frm ∧ okN (s.waits.getD i zeroC).to) := Lib.hid (fun i hi => H.out.okw _ (by
    rw [List.getD_eq_getElem?_getD, List.getElem?_eq_getElem (by rw [HNW.out]; exact hi)]
    exact List.getElem_mem _))
  have HWL : Hid (∀ i, i ≤ nw → (alts s.kept (s.waits.take i)).length < maxLen) := Lib.hid (fun i hi => by
    have h1 := alts_len s.kept (s.waits.take i)
    have h2 := OK.out.kl
    have h3 := OK.out.st
    rw [List.length_take] at h1
    unfold maxLen
    omega)
  clear hbx2 hrd2 hao2 hd2 hk2 hbn
  go_wp2_with (fail)
  go_loopw [30] (fun vi wr => ∃ i, i ≤ k ∧ vi = .int .i64 i ∧ Kw (fun b => b = L.mq) w2 wr ∧ ∃ D, MapAt wr L.mq (alts s.kept (s.waits.take i)) L.bk D) (fun i _ => k - (intOf i).toNat)
  case atStart => exact ⟨0, Nat.zero_le _, rfl, Kw.refl _ _, Dk, by simpa [alts] using hDk⟩
  case round =>
    obtain ⟨i, hik, rfl, hkr, D, hmr⟩ := hrel
    have HKR := Lib.hid hkr
    have HMR := Lib.hid hmr
    have hzr := hkr.size
    clear hkr hmr
    by_cases hi : i < k
    · have hi0 : (0 : Int) ≤ (i : Int) := by omega
      have hi1 : (i : Int) < (k : Int) := by omega
      obtain ⟨g, rfl, hg, hgo, hgc⟩ := HROW.out (by rw [HNW.out]; omega)
      obtain ⟨r0, r1, r2⟩ := hgc i (by rw [HNW.out]; omega)
      have hgm : g ≠ L.mq := (H.out.apart.2.2.2 g hgo).2.2.1
      have hgn : g ≠ w.heap.size := fun e => off_foot (W := w) H.out (Nat.le_refl _) (e ▸ .inr (.inr (.inr (.inr hgo))))
      have hgw2 : g < w2.heap.size := by omega
      have q0 := (HKR.out.cell (i := i * 3) hgw2 hgm).trans ((HK2.out.cell (i := i * 3) hg hgn).trans r0)
      have q1 := (HKR.out.cell (i := i * 3 + 1) hgw2 hgm).trans ((HK2.out.cell (i := i * 3 + 1) hg hgn).trans r1)
      have q2 := (HKR.out.cell (i := i * 3 + 2) hgw2 hgm).trans ((HK2.out.cell (i := i * 3 + 2) hg hgn).trans r2)
      have hgr : g < wr.heap.size := by omega
      have a5 := (HKR.out.cell (i := 5) hlt2 H.out.apart.2.1).trans HD2.out.c.2.2.2.2.2.1
      have hltr : L.d < wr.heap.size := by omega
      have HCHI : Hid (s.waits.getD i zeroC = s.waits.getD i zeroC) := Lib.hid rfl
      obtain ⟨ch, hch⟩ : ∃ ch, s.waits.getD i zeroC = ch := ⟨_, rfl⟩
      rw [hch] at q0 q1 q2
      have HCHE := Lib.hid hch
      have hbA := bl_alloc (Below.refl wr.heap.size wr) (Obj.cells #[.string ByteArray.empty, .string ByteArray.empty, .pointer none] 68)
      clear hch hgc r0 r1 r2 HCHI
      obtain ⟨frm, to, fi⟩ := ch
      dsimp only at q0 q1 q2
      obtain ⟨cp, hcp⟩ : ∃ cp, chP L.bk ⟨frm, to, fi⟩ = cp := ⟨_, rfl⟩
      rw [hcp] at q2
      have HCP := Lib.hid hcp
      obtain ⟨pq, rfl⟩ : ∃ pq, cp = .pointer pq := by
        rw [← hcp]
        unfold chP
        split
        · exact ⟨_, rfl⟩
        · exact ⟨_, rfl⟩
      clear hcp
      go_wp2_with (fail)
      have hbC : Below wr.heap.size wr (wr.alloc (Obj.cells #[.string frm, .string to, .pointer pq] 68)) := bl_alloc (Below.refl _ _) _
      have hxC : (wr.alloc (Obj.cells #[.string frm, .string to, .pointer pq] 68)).heap[wr.heap.size]? = some (Obj.cells #[.string frm, .string to, .pointer pq] 68) := new_heap wr _
      have hlC : wr.heap.size < (wr.alloc (Obj.cells #[.string frm, .string to, .pointer pq] 68)).heap.size := by simp
      have HBC := Lib.hid hbC
      have c0 := cell_of hxC 0
      have c1 := cell_of hxC 1
      have c2' := cell_of hxC 2
      have a5 := (hbC.cell (p := ⟨L.d, 5, none⟩) hltr).trans a5
      have hltC := Nat.lt_of_lt_of_le hltr hbC.size
      clear hbC hxC q0 q1 q2 hbA
      generalize (wr.alloc (Obj.cells #[.string frm, .string to, .pointer pq] 68)) = wc at *
      have hAL := alter_any (s.waits.getD i zeroC) L.mq (alts s.kept (s.waits.take i)) L.bk D wc.drew ((HMR.out.kw (S := fun _ => False) (Kw.ofBelow HBC.out) (fun h => h)).kw (S := fun _ => False) (Kw.ofBelow (Below.refl _ _).drew) (fun h => h)) (HOWS.out i (by omega)).1 (HOWS.out i (by omega)).2 (HWL.out i (by omega))
      have HAL := Lib.hid hAL
      clear hAL
      rw [HCHE.out] at HAL
      unfold chV at HAL
      dsimp only at HAL
      rw [HCP.out] at HAL
      have HWD : Hid (Kw (fun b => b = L.mq) w2 wc.drew) := Lib.hid (HKR.out.trans ((Kw.ofBelow (S := fun b => b = L.mq) HBC.out).drew))
      have c0 : wc.cell? ⟨wr.heap.size, 0, none⟩ = some (.string frm) := c0
      have c1 : wc.cell? ⟨wr.heap.size, 1, none⟩ = some (.string to) := c1
      have c2' : wc.cell? ⟨wr.heap.size, 2, none⟩ = some (.pointer pq) := c2'
      go_still_tail 5, (by kernel_rfl)
      change wpList _ _ _ _ _ wc.drew
      generalize wc.drew = wd at *
      go_wp2_with (fail)
      refine HAL.out.mono ?_
      rintro r w3 ⟨rfl, hm3, hk3⟩
      have HM3 := Lib.hid hm3
      have HK3 := Lib.hid (HWD.out.trans hk3)
      clear hm3 hk3
      go_wp2_with (fail)
      go_roundw
      case rel =>
        refine ⟨i + 1, by omega, by first | rfl | (push_cast; rfl) | go_num, HK3.out, ?_⟩
        obtain ⟨D', hD'⟩ := HM3.out
        exact ⟨D', by rw [alts_take (by rw [HNW.out]; omega), HCHE.out]; exact hD'⟩
      case measure => simp [intOf]; omega
    · obtain rfl : i = k := by omega
      obtain ⟨w3, rfl⟩ : ∃ w3, w3 = wr := ⟨_, rfl⟩
      obtain ⟨l, hl⟩ : ∃ l, alts s.kept (s.waits.take i) = l := ⟨_, rfl⟩
      have HMR3 := HMR.out
      rw [hl] at HMR3
      have hs1 : s.keep i = { s with kept := l } := by unfold DS.keep; rw [hl]
      have hsub : ∀ n j, (n, j) ∈ l → s.has j := fun n j hj => by
        rw [← hl] at hj
        rcases mem_alts hj with h | ⟨ch, hc, h⟩
        · exact .inr (.inl ⟨n, h⟩)
        · exact .inr (.inr ⟨ch, List.mem_of_mem_take hc, h⟩)
      have hd3 : DAt w3 L { s with kept := l } := HD2.out.setKept HKR.out ⟨D, HMR3⟩ hsub
      have hsl : srt l := by rw [← hl]; exact alts_srt HSR.out _
      have hll : l.length ≤ 1000000 := by
        have h1 := alts_len s.kept (s.waits.take i)
        have h2 := OK.out.kl
        have h3 := OK.out.st
        rw [List.length_take, hl] at h1
        omega
      have HSUB := Lib.hid hsub
      have HD3 := Lib.hid hd3
      have HM3 := Lib.hid HMR3
      have HSL := Lib.hid hsl
      have HS1 := Lib.hid hs1
      have a5 := hd3.c.2.2.2.2.2.1
      have hlt3 := hd3.lt
      have HSO := Lib.hid (sorted_names HMR3 hsl hll)
      have HKY := Lib.hid (fun W => keys_any (some L.mq) W)
      obtain ⟨nl, hnl⟩ : ∃ nl, l.length = nl := ⟨_, rfl⟩
      have HNL := Lib.hid hnl
      rw [hnl] at hll HSO
      clear hd3 HMR3 hsl hs1 hsub hnl
      go_wp2_with (first | (go_at_call 46; refine (HKY.out _).mono ?_; rintro r w' ⟨rfl, rfl⟩) | (go_at_call 45; refine HSO.out.mono ?_; rintro r w4 ⟨B4, c4, rfl, hc4, hna4, hb4⟩))
      have hz4 := hb4.size
      have HB4 := Lib.hid hb4
      have HNA := Lib.hid hna4
      have HD4 := Lib.hid (HD3.out.below hb4)
      have hwbx : w.heap.size < w3.heap.size := by omega
      have hbxm : w.heap.size ≠ L.mq := by
        have := HD2.out.foot_lt (.inr (.inr (.inl rfl)))
        obtain ⟨_, hDx⟩ := H.out.keptm
        have := hDx.lt
        omega
      have hk24 : Kw (fun b => b = L.mq) w2 w4 := HKR.out.trans (Kw.ofBelow hb4)
      have HK24 := Lib.hid hk24
      have HBX4 : Hid (Box w4 w.heap.size (.slice A2 cs.tail.length c2) 22) := Lib.hid (HBX2.out.kw hk24 hbxm)
      have HRD4 : Hid (RdC w4 A2 cs.tail) := Lib.hid (HRD2.out.kw hk24 (fun hpos a ha e => by
        obtain ⟨a0, h0, h1⟩ := HAO2.out a ha
        exact (HOFF.out (by rw [List.length_tail] at hpos; omega) a0 h0).2 (.inr (.inr (.inl (h1.trans e))))))
      clear hb4 hna4 hk24
      go_loopw [48] (fun vi wr => ∃ j, j ≤ nl ∧ vi = .int .i64 j ∧ ∃ s2 cs2 A' c', cutAll (l.take j) { s with kept := l } cs.tail = (s2, cs2) ∧ DAt wr L s2 ∧ OkF s2 ∧ Box wr w.heap.size (.slice A' cs2.length c') 22 ∧ cs2.length ≤ c' ∧ RdC wr A' cs2 ∧ (∀ a, A' = some a → ∃ a0, A = some a0 ∧ a0.block = a.block) ∧
        Kw (fun b => (∃ q, s.has q ∧ b = L.bk q) ∨ b = w.heap.size) w4 wr) (fun j _ => nl - (intOf j).toNat)
      case atStart => exact ⟨0, Nat.zero_le _, rfl, _, _, A2, c2, rfl, HD4.out, fun i => ⟨OK.out.su i, by
        have h1 := OK.out.fs i
        have h2 := OK.out.st
        show (s.file i).data.size ≤ 3000000000
        omega⟩, HBX4.out, hc2, HRD4.out, HAO2.out, Kw.refl _ _⟩
      case round =>
        obtain ⟨j, hjl, rfl, s2, cs2, A', c', hcut, hdr, hof, hbx, hcc, hrd, hao, hkr⟩ := hrel
        have HCUT := Lib.hid hcut
        have HDR := Lib.hid hdr
        have HOF := Lib.hid hof
        have HBX := Lib.hid hbx
        have HRD := Lib.hid hrd
        have HAO := Lib.hid hao
        have HKR4 := Lib.hid hkr
        have hzr4 := hkr.size
        clear hcut hdr hof hbx hrd hao hkr
        by_cases hj : j < nl
        · have hj0 : (0 : Int) ≤ (j : Int) := by omega
          have hj1 : (j : Int) < (nl : Int) := by omega
          obtain ⟨g, rfl, hg1, hg2, hgc⟩ := HNA.out (by rw [HNL.out]; omega)
          have r0 := hgc j (by rw [HNL.out]; exact hj)
          have hgS : ¬ ((∃ q, s.has q ∧ g = L.bk q) ∨ g = w.heap.size) := by
            rintro (⟨q, hq, e⟩ | e)
            · have := (H.out.file q hq).1.lt
              omega
            · omega
          have r0 := (HKR4.out.cell (i := j) hg2 hgS).trans r0
          have hgr : g < wr.heap.size := by omega
          obtain ⟨⟨n, q⟩, hp⟩ : ∃ p, l.getD j zeroN = p := ⟨_, rfl⟩
          rw [hp] at r0
          dsimp only at r0
          have HP := Lib.hid hp
          clear hp hgc
          have hpm : (n, q) ∈ l := by
            rw [← HP.out, List.getD_eq_getElem?_getD, List.getElem?_eq_getElem (by rw [HNL.out]; exact hj)]
            exact List.getElem_mem _
          have hst := cutAll_dir (l.take j) { s with kept := l } cs.tail
          rw [HCUT.out] at hst
          obtain ⟨hs2k, hs2d, hs2w, hs2f⟩ := hst
          dsimp only at hs2k hs2d hs2w hs2f
          have hq2 : s2.has q := .inr (.inl ⟨n, by rw [hs2k]; exact hpm⟩)
          have hqs : s.has q := by
            rcases HD3.out.file q (.inr (.inl ⟨n, hpm⟩)) with _
            have : DS.has { s with kept := l } q := .inr (.inl ⟨n, hpm⟩)
            exact HSUB.out n q hpm
          have HCL2 : Hid (cs2.length ≤ cs.length) := Lib.hid (by
            have h1 := cutAll_len (l.take j) { s with kept := l } cs.tail
            rw [HCUT.out] at h1
            have h2 := List.length_tail (l := cs)
            dsimp only at h1
            omega)
          obtain ⟨D2, hD2⟩ := HDR.out.keptm
          have hlk := hD2.look (hD2.ok (n, q) (by rw [hs2k]; exact hpm))
          rw [look_mem hD2.nd (by rw [hs2k]; exact hpm)] at hlk
          have HLK : Hid ((Instr.lookup 57 (.map (some L.mq)) (.string n) false).run Try.prog wr = .ok (.pointer (some ⟨L.bk q, 0, none⟩)) wr) := Lib.hid hlk
          have HQ2 := Lib.hid hq2
          have HFT : Hid (∀ b, Foot L s2 b → Foot L s b) := Lib.hid (fun b hb => by
            rcases hb with e | e | e | ⟨x, hx, e⟩ | e
            · exact .inl e
            · exact .inr (.inl e)
            · exact .inr (.inr (.inl e))
            · refine .inr (.inr (.inr (.inl ⟨x, ?_, e⟩)))
              rcases hx with ⟨y, hy⟩ | ⟨y, hy⟩ | ⟨y, hy, h1⟩
              · exact .inl ⟨y, by rw [hs2d] at hy; exact hy⟩
              · exact HSUB.out y x (by rw [hs2k] at hy; exact hy)
              · exact .inr (.inr ⟨y, by rw [hs2w] at hy; exact hy, h1⟩)
            · exact .inr (.inr (.inr (.inr e))))
          have HQS := Lib.hid hqs
          have hfa := (HDR.out.file q hq2).1
          have f0 := hfa.cells.1
          have f1 := hfa.cells.2
          have fl := hfa.lt
          have HFA := Lib.hid hfa
          have hfo := HOF.out q
          have a5 := HDR.out.c.2.2.2.2.2.1
          have hltr := HDR.out.lt
          obtain ⟨⟨fdata, fsure⟩, hff⟩ : ∃ f, s2.file q = f := ⟨_, rfl⟩
          rw [hff] at f0 f1 hfo
          dsimp only at f0 f1 hfo
          obtain ⟨sz, hsz⟩ : ∃ sz, fdata.size = sz := ⟨_, rfl⟩
          rw [hsz] at hfo
          obtain ⟨hfo1, hfo2⟩ := hfo
          have e0 := ext_cell f0
          have e1 := ext_cell f1
          have HSZ := Lib.hid hsz
          have HFF := Lib.hid hff
          have hi1 : (fsure : Int) ≤ (sz : Int) := by omega
          have hi2 : (sz : Int) ≤ 3000000000 := by omega
          clear hs2k hs2d hs2w hq2 hqs hD2 hlk hfa hff hs2f
          go_wp2_with (at_lookup; refine wpList_lookup_run rfl _ _ 57 rfl _ _ _ rfl rfl HLK.out ?_)
          refine wp_region_ext (by kernel_rfl) (by kernel_rfl) ?_
          repeat (go_big_quiet_step (fail))
          refine wpQuiet_nil ?_
          rintro wq ⟨⟨_, hbq⟩, rfl⟩
          have HBQ := Lib.hid hbq
          have f0 := (hbq.cell (p := ⟨L.bk q, 0, none⟩) fl).trans f0
          have f1 := (hbq.cell (p := ⟨L.bk q, 1, none⟩) fl).trans f1
          have flq := Nat.lt_of_lt_of_le fl hbq.size
          clear e0 e1 hbq
          by_cases hlo : fsure < sz
          · have hlo1 : (0 : Int) < (sz : Int) - (fsure : Int) := by omega
            obtain ⟨pn, hpn⟩ : ∃ pn, sz - fsure + 1 = pn := ⟨_, rfl⟩
            obtain ⟨k5, hk5⟩ : ∃ k5, pick cs2 pn = k5 := ⟨_, rfl⟩
            have hk5l : k5 < pn := by rw [← hk5]; exact pick_lt cs2 (by omega)
            have hwr1 : IntKind.i64.wrap ((sz : Int) - (fsure : Int) + 1) = (pn : Int) := by rw [IntWalk.i64_in _ (by omega)]; omega
            have hwr2 : IntKind.i64.wrap ((fsure : Int) + (k5 : Int)) = (fsure : Int) + (k5 : Int) := IntWalk.i64_in _ (by omega)
            have hb1 : (0 : Int) ≤ (fsure : Int) + (k5 : Int) := by omega
            have hb2 : (fsure : Int) + (k5 : Int) ≤ (sz : Int) := by omega
            have hqw : L.bk q < w.heap.size := (H.out.file q HQS.out).1.lt
            have hqne : L.bk q ≠ w.heap.size := by omega
            have hcb : w.heap.size < wr.heap.size := by omega
            have hch5 := choose_any w.heap.size pn c' cs2 A' wq.drew ((HBX.out.below HBQ.out).below (Below.refl _ _).drew) ((HRD.out.below HBQ.out).below (Below.refl _ _).drew) hcc (fun hpos a ha e => by
              obtain ⟨a0, h0, h1⟩ := HAO.out a ha
              have := (HOFF.out (Nat.lt_of_lt_of_le hpos HCL2.out) a0 h0).1
              omega) (by omega) (by omega)
            have HCH5 := Lib.hid hch5
            unfold ptrV at HCH5
            have HK5 := Lib.hid hk5
            have HPN := Lib.hid hpn
            have hszd : fdata.size = sz := HSZ.out
            have fz0 : wq.frozen? ⟨L.bk q, 0, none⟩ = false := ((HFA.out).kw (S := fun _ => False) (Kw.ofBelow HBQ.out) (fun h => h)).frozen 0
            have HAR : Hid (∀ w5, Kw (fun b => b = w.heap.size) wq.drew w5 → w5.cell? ⟨L.bk q, 0, none⟩ = some (.string fdata) ∧ w5.cell? ⟨L.bk q, 1, none⟩ = some (.int .i64 fsure) ∧ w5.frozen? ⟨L.bk q, 0, none⟩ = false ∧ L.bk q < w5.heap.size) := Lib.hid (fun w5 hk => ⟨(hk.cell (i := 0) flq hqne).trans f0, (hk.cell (i := 1) flq hqne).trans f1, (hk.frozen (i := 0) flq hqne).trans fz0, Nat.lt_of_lt_of_le flq hk.size⟩)
            clear hch5 hk5 hpn
            go_wp2_with (fail)
            go_region_with (first | (go_at_call 67; first | rw [hwr1] | skip; refine HCH5.out.mono ?_; rintro r w5 ⟨rfl, A5, c5, hbx5, hcc5, hrd5, hao5, hkk5⟩; rw [HK5.out]; obtain ⟨g0, g1, gz, gl⟩ := HAR.out w5 hkk5))
            all_goals (
              have htn : ((fsure : Int) + (k5 : Int)).toNat = fsure + k5 := by omega
              rw [htn]
              obtain ⟨nd, hnd⟩ : ∃ nd, fdata.extract 0 (fsure + k5) = nd := ⟨_, rfl⟩
              have hnds : nd.size = fsure + k5 := by
                rw [← hnd]
                simp
                omega
              rw [hnd]
              have hd5 : DAt w5 L s2 := ((HDR.out.below HBQ.out).below (Below.refl _ _).drew).kw hkk5 (fun b hb e => by
                have := H.out.foot_lt (HFT.out b hb)
                omega)
              have hf6 : FileAt (w5.setCell ⟨L.bk q, 0, none⟩ (.string nd)) (L.bk q) ⟨nd, fsure⟩ := by
                have h1 := (hd5.file q HQ2.out).1
                rw [HFF.out] at h1
                exact h1.setData nd
              have hk6 : Kw (fun b => b = L.bk q) w5 (w5.setCell ⟨L.bk q, 0, none⟩ (.string nd)) := (Kw.refl (fun b => b = L.bk q) w5).setCell (p := ⟨L.bk q, 0, none⟩) rfl _
              have HD5 := Lib.hid hd5
              have HF6 := Lib.hid hf6
              have HK6 := Lib.hid hk6
              have HBX5 := Lib.hid hbx5
              have HRD5 := Lib.hid hrd5
              have HAO5 := Lib.hid hao5
              have HKK5 := Lib.hid hkk5
              have HND := Lib.hid hnd
              have g0 := hf6.cells.1
              have g1 := hf6.cells.2
              have gz := hf6.frozen 1
              have gl := hf6.lt
              dsimp only at g0 g1
              have HFQ : Hid (FileAt ((w5.setCell ⟨L.bk q, 0, none⟩ (.string nd)).setCell ⟨L.bk q, 1, none⟩ (.int .i64 ((fsure + k5 : Nat) : Int))) (L.bk q) ⟨nd, fsure + k5⟩) := Lib.hid (hf6.setSure _)
              have HKQ : Hid (Kw (fun b => b = L.bk q) w5 ((w5.setCell ⟨L.bk q, 0, none⟩ (.string nd)).setCell ⟨L.bk q, 1, none⟩ (.int .i64 ((fsure + k5 : Nat) : Int)))) := Lib.hid (hk6.setCell (p := ⟨L.bk q, 1, none⟩) rfl _)
              obtain ⟨nk, hnk⟩ : ∃ nk, fsure + k5 = nk := ⟨_, rfl⟩
              rw [hnk] at hnds HFQ HKQ HND
              have HNK := Lib.hid hnk
              have hnkb : nk ≤ 3000000000 := by omega
              clear hd5 hf6 hk6 hbx5 hrd5 hao5 hkk5 hnd htn hwr1 hwr2 hnk
              generalize (w5.setCell ⟨L.bk q, 0, none⟩ (.string nd)) = w6 at *
              go_wp2_with (fail)
              refine ⟨⟨j + 1, by omega, by push_cast; rfl, s2.setF q ⟨nd, nk⟩, cs2.tail, A5, c5, ?_, HD5.out.setFile HQ2.out HFQ.out HKQ.out, HOF.out.setF (by rw [hnds]; exact ⟨Nat.le_refl _, by omega⟩) (HD5.out.file q HQ2.out).2, HBX5.out.kw HKQ.out (fun e => hqne e.symm), hcc5, HRD5.out.kw HKQ.out (fun hpos a ha e => ?_), fun a ha => ?_, ?_⟩, by simp [intOf]; omega⟩
              · have h1 : l.take (j + 1) = l.take j ++ [(n, q)] := by
                  rw [List.take_succ_eq_append_getElem (by rw [HNL.out]; exact hj)]
                  have := HP.out
                  rw [List.getD_eq_getElem?_getD, List.getElem?_eq_getElem (by rw [HNL.out]; exact hj)] at this
                  rw [show l[j]'(by rw [HNL.out]; exact hj) = (n, q) from this]
                rw [h1, cutAll_snoc, HCUT.out]
                dsimp only
                rw [HFF.out]
                have h2 : cutF cs2 ⟨fdata, fsure⟩ = (⟨nd, nk⟩, cs2.tail) := by
                  unfold cutF
                  dsimp only
                  rw [HSZ.out, if_pos hlo, HPN.out, HK5.out, HNK.out, HND.out]
                rw [h2]
              · obtain ⟨a1, h1, h2⟩ := HAO5.out a ha
                obtain ⟨a0, h3, h4⟩ := HAO.out a1 h1
                exact (HOFF.out (Nat.lt_of_lt_of_le (by rw [List.length_tail] at hpos; omega) HCL2.out) a0 h3).2 (.inr (.inr (.inr (.inl ⟨q, HQS.out, (h4.trans h2).trans e⟩))))
              · obtain ⟨a1, h1, h2⟩ := HAO5.out a ha
                obtain ⟨a0, h3, h4⟩ := HAO.out a1 h1
                exact ⟨a0, h3, h4.trans h2⟩
              · exact (((HKR4.out.trans (Kw.ofBelow HBQ.out)).drew).trans (HKK5.out.mono (fun b _ e => .inr e))).trans (HKQ.out.mono (fun b _ e => .inl ⟨q, HQS.out, e⟩)))
          · have hlo1 : ¬ (0 : Int) < (sz : Int) - (fsure : Int) := by omega
            go_wp2_with (fail)
            refine ⟨⟨j + 1, by omega, by push_cast; rfl, s2, cs2, A', c', ?_, HDR.out.below HBQ.out, HOF.out, HBX.out.below HBQ.out, hcc, HRD.out.below HBQ.out, HAO.out, HKR4.out.trans (Kw.ofBelow HBQ.out)⟩, by simp [intOf]; omega⟩
            have h1 : l.take (j + 1) = l.take j ++ [(n, q)] := by
              rw [List.take_succ_eq_append_getElem (by rw [HNL.out]; exact hj)]
              have := HP.out
              rw [List.getD_eq_getElem?_getD, List.getElem?_eq_getElem (by rw [HNL.out]; exact hj)] at this
              rw [show l[j]'(by rw [HNL.out]; exact hj) = (n, q) from this]
            rw [h1, cutAll_snoc, HCUT.out]
            dsimp only
            rw [HFF.out]
            have h2 : cutF cs2 ⟨fdata, fsure⟩ = (⟨fdata, fsure⟩, cs2) := by
              unfold cutF
              dsimp only
              rw [HSZ.out, if_neg hlo]
            rw [h2]
            dsimp only
            rw [setF_same HFF.out (HDR.out.file q HQ2.out).2]
        · obtain rfl : j = nl := by omega
          have hst := cutAll_dir (l.take j) { s with kept := l } cs.tail
          rw [HCUT.out] at hst
          obtain ⟨hs2k, hs2d, hs2w, hs2f⟩ := hst
          dsimp only at hs2k hs2d hs2w hs2f
          have hcr : s.crash cs = s2.boot := by
            unfold DS.crash
            rw [HNW.out, HK.out, HS1.out]
            dsimp only
            have := HCUT.out
            rw [List.take_of_length_le (by rw [HNL.out]; exact Nat.le_refl _)] at this
            rw [this]
          have hsub2 : ∀ x, s2.has x → s.has x := fun x hx => by
            rcases hx with ⟨y, hy⟩ | ⟨y, hy⟩ | ⟨y, hy, h1⟩
            · exact .inl ⟨y, by rw [hs2d] at hy; exact hy⟩
            · exact HSUB.out y x (by rw [hs2k] at hy; exact hy)
            · exact .inr (.inr ⟨y, by rw [hs2w] at hy; exact hy, h1⟩)
          obtain ⟨D2, hD2⟩ := HDR.out.keptm
          have HCL := Lib.hid (clone_any wr L.mq s2.kept L.bk D2 hD2)
          have HSUB2 := Lib.hid hsub2
          have a5 := HDR.out.c.2.2.2.2.2.1
          have hltr := HDR.out.lt
          have HCR := Lib.hid hcr
          have HKW : Hid (Kw (fun b => Foot L s b ∨ w.heap.size ≤ b) w wr) := Lib.hid (by
            have k1 : Kw (fun b => Foot L s b ∨ w.heap.size ≤ b) w w2 := ((Kw.ofBelow HB1.out).drew).trans (HK2.out.mono (fun b _ e => .inr (by omega)))
            have k2 : Kw (fun b => Foot L s b ∨ w.heap.size ≤ b) w w4 := k1.trans (HK24.out.mono (fun b _ e => .inl (.inr (.inr (.inl e)))))
            refine k2.trans (HKR4.out.mono (fun b _ e => ?_))
            rcases e with ⟨x, hx, e⟩ | e
            · exact .inl (.inr (.inr (.inr (.inl ⟨x, hx, e⟩))))
            · exact .inr (by omega))
          clear hs2k hs2d hs2w hs2f hcr hsub2 hD2
          go_wp2_with (fail)
          refine HCL.out.mono ?_
          rintro r w7 ⟨rfl, hD7, hb7, hz7⟩
          have hd7 := HDR.out.below hb7
          obtain ⟨_, _, s2', s3', s4', _, s6'⟩ := hd7.c
          have z2 := hd7.fz 2
          have z3 := hd7.fz 3
          have z4 := hd7.fz 4
          have z6 := hd7.fz 6
          have hlt7 := hd7.lt
          rw [HV.out] at s6'
          have HD7 := Lib.hid hD7
          have HB7 := Lib.hid hb7
          have H60 : Hid (w7.heap[L.d]? = some (Obj.cells (dcells L s2) 60)) := Lib.hid hd7.cells
          clear hd7 hD7 hb7
          go_wp2_with (fail)
          go_end0
          rw [HCR.out]
          exact DoR.ofBoot H.out HDR.out HSUB2.out HKW.out HB7.out (Nat.le_refl _) ⟨D2, HD7.out⟩ rfl (set_heap (set_heap (set_heap (set_heap H60.out)))) (((((Kw.refl (fun b => b = L.d) w7).setCell (p := ⟨L.d, _, none⟩) rfl _).setCell (p := ⟨L.d, _, none⟩) rfl _).setCell (p := ⟨L.d, _, none⟩) rfl _).setCell (p := ⟨L.d, _, none⟩) rfl _)
end Go.Proofs.Ytjgiohlkpenipaa
