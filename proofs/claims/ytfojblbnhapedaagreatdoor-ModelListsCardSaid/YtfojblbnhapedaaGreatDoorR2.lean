/- The document's example, in plain words. Conditions: as each theorem states them. -/
import Derived.Test.YtfojblbnhapedaaGreatDoorP9
namespace Go.Proofs.YtfojblbnhapedaaGreatDoor
open Go.RowKit Go.Maps
set_option linter.unusedVariables false
set_option linter.unusedSimpArgs false

theorem pickW_mem {M : Md} {op : Int} {key : ByteArray} {w : Int × Int} : w ∈ pickW op key M.Lp ↔ ∃ y ∈ plain M.L, y.1.op = op ∧ y.1.key = key ∧ w = (y.1.f, y.1.t) := by
  unfold pickW Md.Lp plain
  constructor
  · intro h
    obtain ⟨b, hb, rfl⟩ := List.mem_map.1 h
    obtain ⟨hb, hc⟩ := List.mem_filter.1 hb
    obtain ⟨x, hx, rfl⟩ := List.mem_map.1 hb
    have hc := of_decide_eq_true hc
    exact ⟨(x.p, x.vs), List.mem_map.2 ⟨x, hx, rfl⟩, hc.1, hc.2, rfl⟩
  · rintro ⟨y, hy, h1, h2, rfl⟩
    obtain ⟨x, hx, rfl⟩ := List.mem_map.1 hy
    exact List.mem_map.2 ⟨(x.p, x.r), List.mem_filter.2 ⟨List.mem_map.2 ⟨x, hx, rfl⟩, decide_eq_true ⟨h1, h2⟩⟩, rfl⟩
theorem plain_nd {M : Md} (h : ND (plain M.L)) : (M.Lp.map (·.1)).Nodup := by
  rw [Md.Lp_eq, ← plain_keys]
  exact h
theorem pickW_nodup {M : Md} (h : ND (plain M.L)) (op : Int) (key : ByteArray) : (pickW op key M.Lp).Nodup := by
  have h1 := plain_nd h
  have h2 : (M.Lp.filter fun b => decide (b.1.op = op ∧ b.1.key = key)).Pairwise (fun a b => a.1 ≠ b.1) := by
    have h3 := List.pairwise_map.1 h1
    exact h3.sublist List.filter_sublist
  unfold pickW
  unfold List.Nodup
  rw [List.pairwise_map]
  refine List.Pairwise.imp_of_mem (fun {a b} ha hb hne e => hne ?_) h2
  have ha := of_decide_eq_true (List.mem_filter.1 ha).2
  have hb := of_decide_eq_true (List.mem_filter.1 hb).2
  obtain ⟨⟨o1, k1, f1, t1⟩, r1⟩ := a
  obtain ⟨⟨o2, k2, f2, t2⟩, r2⟩ := b
  dsimp only at *
  obtain ⟨rfl, rfl⟩ := ha
  obtain ⟨rfl, rfl⟩ := hb
  injection e with e1 e2
  rw [e1, e2]
/-- A key's windows of sessions stand apart. -/
theorem wins_ap {M : Md} (h : GoodL M.j (plain M.L)) {i : Int} (hk : kindOf M.j i = 3) (key : ByteArray) : Ap (winsOf M i key) := by
  have hnd : (winsOf M i key).Nodup := by
    unfold winsOf
    exact (sortW_perm _).nodup_iff.2 (pickW_nodup h.nd i key)
  have hm : ∀ w ∈ winsOf M i key, ∃ y ∈ plain M.L, y.1.op = i ∧ y.1.key = key ∧ w = (y.1.f, y.1.t) := fun w hw => by
    unfold winsOf at hw
    exact pickW_mem.1 ((sortW_perm _).mem_iff.1 hw)
  have hmay : ∀ w ∈ winsOf M i key, mayB w = true := fun w hw => by
    obtain ⟨y, hy, _, _, rfl⟩ := hm w hw
    exact (h.pn y hy).may
  refine ⟨?_, hmay⟩
  have hs : (winsOf M i key).Pairwise (fun x y => x.1 ≤ y.1) := sortW_sorted _
  refine List.Pairwise.imp_of_mem (fun {a b} ha hb hab => ?_) (List.Pairwise.and hs hnd)
  obtain ⟨hle, hne⟩ := hab
  obtain ⟨y, hy, y1, y2, ye⟩ := hm a ha
  obtain ⟨z, hz, z1, z2, ze⟩ := hm b hb
  have ha2 := may_lt (hmay a ha)
  have hb2 := may_lt (hmay b hb)
  rcases h.ss y hy z hz (by rw [y1]; exact hk) (by rw [y1, z1]) (by rw [y2, z2]) with e | e | e
  · exact absurd (by rw [ye, ze, e]) hne
  · rw [ye, ze]; exact e
  · subst ye ze
    dsimp only at hle ha2 hb2
    omega
theorem good_dist {M : Md} (h : GoodL M.j (plain M.L)) (op : Int) (key : ByteArray) : DistF (pickW op key M.Lp) := by
  intro x hx y hy e
  by_cases hk : kindOf M.j op = 3
  · have hap := wins_ap h hk key
    have hx2 : x ∈ winsOf M op key := (sortW_perm _).mem_iff.2 hx
    have hy2 : y ∈ winsOf M op key := (sortW_perm _).mem_iff.2 hy
    rcases ap_two hap hx2 hy2 with h1 | h1 | h1
    · exact h1
    · have := may_lt (hap.2 x hx2); omega
    · have := may_lt (hap.2 y hy2); omega
  · obtain ⟨a, ha, a1, a2, rfl⟩ := pickW_mem.1 hx
    obtain ⟨b, hb, b1, b2, rfl⟩ := pickW_mem.1 hy
    have h1 := (h.pn a ha).len (by rw [a1]; exact hk)
    have h2 := (h.pn b hb).len (by rw [b1]; exact hk)
    dsimp only at e
    rw [a1] at h1
    rw [b1] at h2
    rw [Prod.mk.injEq]
    exact ⟨e, by omega⟩
theorem good_okL {M : Md} (h : GoodL M.j (plain M.L)) (hl : M.L.length ≤ 1024) : OkL M :=
  ⟨plain_nd h.nd, good_dist h, by unfold Md.Lp; rw [List.length_map]; exact hl⟩
/-- The windows of a time may be. -/
theorem wins_may {K S L t : Int} (hq : chkV K S L = 0) (h1 : -1125899906842624 ≤ t) (h2 : t ≤ 1125899906842624) : ∀ p ∈ winsL K S L t, mayB p = true ∧ p.2 = p.1 + S := by
  unfold chkV at hq
  unfold winsL
  by_cases e1 : K = 1
  · rw [if_pos (.inl e1)] at hq
    have hS : plainB S L = true := by
      cases hc : plainB S L
      · rw [hc] at hq; simp at hq
      · rfl
    have hb := plainB_bd hS
    have hf := flr_le t S hb.1
    rw [if_pos e1]
    intro p hp
    rw [List.mem_singleton.1 hp]
    refine ⟨?_, rfl⟩
    rw [may_bd]
    dsimp only
    omega
  · by_cases e2 : K = 2
    · rw [if_neg (by omega), if_pos e2] at hq
      have hS : slidB S L = true := by
        cases hc : slidB S L
        · rw [hc] at hq; simp at hq
        · rfl
      have hb := slidB_bd hS
      rw [if_neg e1, if_pos e2]
      intro p hp
      obtain ⟨i, hi, rfl⟩ := List.mem_map.1 hp
      have hi := List.mem_range.1 hi
      have hle := (slF_lt t S L hb.2.2.1 hb.1 i).1 hi
      have hf := flr_le (t - S) L hb.2.2.1
      have hil : (0 : Int) ≤ (i : Int) * L := Int.mul_nonneg (by omega) (by omega)
      have hge : slF t S L i = flr (t - S) L + L + (i : Int) * L := rfl
      refine ⟨?_, rfl⟩
      rw [may_bd]
      dsimp only
      omega
    · by_cases e3 : K = 3
      · rw [if_pos (.inr e3)] at hq
        have hS : plainB S L = true := by
          cases hc : plainB S L
          · rw [hc] at hq; simp at hq
          · rfl
        have hb := plainB_bd hS
        rw [if_neg e1, if_neg e2]
        intro p hp
        rw [List.mem_singleton.1 hp]
        refine ⟨?_, rfl⟩
        rw [may_bd]
        dsimp only
        omega
      · rw [if_neg (by omega), if_neg e2] at hq
        omega
theorem chs_mem {M : Md} {key : ByteArray} {t was : Int} {n : Nat} {c : Chg} (h : c ∈ chO M key t was n) : ∃ i, i < n ∧ ∃ w ∈ opW M t i, ¬ w.2 - 1 + M.j.late ≤ was ∧ c = chG M key i w := by
  unfold chO at h
  obtain ⟨i, hi, h⟩ := List.mem_flatMap.1 h
  unfold chWs at h
  obtain ⟨w, hw, h⟩ := List.mem_filterMap.1 h
  unfold chW at h
  split at h
  · cases h
  · rename_i hg
    exact ⟨i, List.mem_range.1 hi, w, hw, hg, (Option.some.inj h).symm⟩
theorem chG_op (M : Md) (key : ByteArray) (i : Nat) (w : Int × Int) : (chG M key i w).p.op = i ∧ (chG M key i w).p.key = key := by
  unfold chG
  split <;> exact ⟨rfl, rfl⟩
theorem winsL_one {K S L t : Int} (h : K = 3) : winsL K S L t = [(t, t + S)] := by
  unfold winsL
  rw [if_neg (by omega), if_neg (by omega)]
/-- No two changes of a record are of one operator of sessions. -/
theorem chs_pair (M : Md) (key : ByteArray) (t was : Int) : ∀ n, (chO M key t was n).Pairwise fun a b => kindOf M.j b.p.op = 3 → a.p.op ≠ b.p.op
  | 0 => List.Pairwise.nil
  | n + 1 => by
    rw [chO_succ, List.pairwise_append]
    refine ⟨chs_pair M key t was n, ?_, fun a ha b hb _ e => ?_⟩
    · by_cases hk : (M.j.ops.getD n zeroP).k = 3
      · have h1 : (chWs M key was n (opW M t n)).length ≤ 1 := by
          have h2 : (chWs M key was n (opW M t n)).length ≤ (opW M t n).length := List.length_filterMap_le _ _
          unfold opW at h2 ⊢
          rw [winsL_one hk] at h2 ⊢
          simpa using h2
        cases hl : chWs M key was n (opW M t n) with
        | nil => exact List.Pairwise.nil
        | cons a l =>
          rw [hl] at h1
          have : l = [] := List.eq_nil_of_length_eq_zero (by simpa using h1)
          rw [this]
          exact List.pairwise_singleton _ _
      · refine List.Pairwise.imp_of_mem (R := fun _ _ => True) (fun {a b} ha hb _ hkb => ?_) (List.pairwise_of_forall (fun _ _ => trivial))
        exfalso
        unfold chWs at hb
        obtain ⟨w, hw, h⟩ := List.mem_filterMap.1 hb
        unfold chW at h
        split at h
        · cases h
        · have h := (Option.some.inj h).symm
          rw [h, (chG_op M key n w).1] at hkb
          unfold kindOf at hkb
          exact hk (by simpa using hkb)
    · obtain ⟨i, hi, w, _, _, rfl⟩ := chs_mem ha
      unfold chWs at hb
      obtain ⟨w2, hw2, h⟩ := List.mem_filterMap.1 hb
      unfold chW at h
      split at h
      · cases h
      · have h := (Option.some.inj h).symm
        rw [h, (chG_op M key i w).1, (chG_op M key n w2).1] at e
        omega
/-- The changes of a record may be made. -/
theorem chs_ok {M : Md} {e : Ev} (hj : jobP M.j) (h : GoodL M.j (plain M.L)) (ht1 : -1125899906842624 ≤ e.t) (ht2 : e.t ≤ 1125899906842624) (hk : e.key.size ≤ 64) : ∀ c ∈ M.chs e, CgOk M.j (plain M.L) c ∧ ∀ w ∈ c.ws, mayB w = true := by
  intro c hc
  obtain ⟨i, hi, w, hw, hg, rfl⟩ := chs_mem hc
  have hmp := (opsP_at hj.2 i hi).2.2.2
  obtain ⟨hwm, hwl⟩ := wins_may hmp ht1 ht2 w hw
  unfold chG
  by_cases h3 : (M.j.ops.getD i zeroP).k = 3
  · have hk3 : kindOf M.j (i : Int) = 3 := by unfold kindOf; simpa using h3
    have hap := wins_ap h hk3 e.key
    have hmv : mergeV (winsOf M i e.key) w = (oneF w (winsOf M i e.key), goneF w (winsOf M i e.key), restL (oneF w (winsOf M i e.key)) (winsOf M i e.key), 0) := by
      unfold mergeV
      rw [(ap_iff _).2 hap, hwm]
      rfl
    rw [if_pos h3, hmv]
    refine ⟨⟨⟨⟨i, hi, rfl⟩, hk, one_may hap hwm, fun hn => absurd hk3 hn⟩, fun _ y hy e1 e2 => ?_⟩, fun x hx => ?_⟩
    · dsimp only at e1 e2 ⊢
      have hyw : (y.1.f, y.1.t) ∈ winsOf M i e.key := (sortW_perm _).mem_iff.2 (pickW_mem.2 ⟨y, hy, e1, e2, rfl⟩)
      cases hmt : meetB (y.1.f, y.1.t) w with
      | true => exact .inl (List.mem_filter.2 ⟨hyw, hmt⟩)
      | false =>
        rcases (not_met hap hwm hyw).1 hmt with hlo | hhi
        · exact .inr (.inl (low_end hap hwm hyw hlo))
        · exact .inr (.inr hhi)
    · exact hap.2 x (List.mem_filter.1 hx).1
  · have hk3 : kindOf M.j (i : Int) ≠ 3 := by unfold kindOf; simpa using h3
    rw [if_neg h3]
    refine ⟨⟨⟨⟨i, hi, rfl⟩, hk, hwm, fun _ => ?_⟩, fun hn => absurd hn hk3⟩, fun x hx => ?_⟩
    · dsimp only
      rw [hwl]
      unfold sizeOfW
      simp
    · dsimp only at hx
      split at hx
      · rw [List.mem_singleton.1 hx]; exact hwm
      · cases hx
theorem may_okPl {p : Pl} (h1 : ∃ i : Nat, i ≤ 8 ∧ p.op = i) (h2 : p.key.size ≤ 64) (h3 : mayB (p.f, p.t) = true) : okPl p := by
  obtain ⟨i, hi, e⟩ := h1
  have h4 := may_bd.1 h3
  dsimp only at h4
  refine ⟨by omega, by unfold maxLen; omega, by omega, by omega⟩
theorem chs_good {M : Md} {e : Ev} (hj : jobP M.j) (h : GoodL M.j (plain M.L)) (hl : M.L.length ≤ 1024) (ht1 : -1125899906842624 ≤ e.t) (ht2 : e.t ≤ 1125899906842624) (hk : e.key.size ≤ 64) : ∀ c ∈ M.chs e, GoodC M c := by
  intro c hc
  obtain ⟨hok, hws⟩ := chs_ok hj h ht1 ht2 hk c hc
  obtain ⟨i, hi, hie⟩ := hok.pn.op
  have h8 := hj.1.2.2.2.2.2.2.2.2
  have hop : ∃ i : Nat, i ≤ 8 ∧ c.p.op = i := ⟨i, by omega, hie⟩
  have hm := may_bd.1 hok.pn.may
  dsimp only at hm
  refine ⟨may_okPl hop hok.pn.key hok.pn.may, fun w hw => may_okPl (p := ⟨c.p.op, c.p.key, w.1, w.2⟩) hop hok.pn.key (hws w hw), by omega, hok.pn.op, ?_⟩
  obtain ⟨i, hi, w, hw, hg, rfl⟩ := chs_mem hc
  unfold chG
  split
  · dsimp only
    have h1 := winsOf_len M i e.key
    unfold Md.Lp at h1
    rw [List.length_map] at h1
    unfold mergeV
    split
    · have := goneF_len w (winsOf M i e.key)
      dsimp only
      omega
    · simp
  · dsimp only
    split <;> simp
end Go.Proofs.YtfojblbnhapedaaGreatDoor
namespace Go.Proofs.YtfojblbnhapedaaGreatDoor
open Go.RowKit Go.Maps
set_option linter.unusedVariables false
set_option linter.unusedSimpArgs false

def ka : ByteArray := ⟨#[97]⟩
def JX (A : Option Addr) (c : Nat) : Jb := ⟨1, 1, 0, 5, [⟨hits, 1, 1, 10, 0⟩], A, c⟩
def E1 : Ev := ⟨1, 0, 3, ka, 0⟩
def E2 : Ev := ⟨1, 0, 12, ka, 0⟩
def E3 : Ev := ⟨1, 0, 4, ka, 0⟩
def p0 : Pl := ⟨0, ka, 0, 10⟩
def p1 : Pl := ⟨0, ka, 10, 20⟩
def kA (n : Int) : Mk := ⟨1, 0, (n, false) :: List.replicate 15 (0, false), n⟩
theorem kA0 : Mk.new 1 0 = kA (-1125899906842624) := rfl
theorem has_nil (A : Option Addr) (c : Nat) (m : Mk) (L : List Pn) (d : Int) (x : Pl) : (⟨JX A c, m, L, d⟩ : Md).has x ↔ x ∈ (plain L).map (·.1) := by
  unfold Md.has
  rw [plain_keys]
  constructor
  · rintro ⟨y, hy, rfl⟩; exact List.mem_map.2 ⟨y, hy, rfl⟩
  · intro h
    obtain ⟨y, hy, e⟩ := List.mem_map.1 h
    exact ⟨y, hy, e⟩
theorem chsX (A : Option Addr) (c : Nat) (m : Mk) (L : List Pn) (d : Int) (e : Ev) (w : Int × Int) (hw : winsL 1 10 0 e.t = [w]) (hg : ¬ w.2 - 1 + 5 ≤ m.now) : Md.chs ⟨JX A c, m, L, d⟩ e = [⟨⟨0, e.key, w.1, w.2⟩, if (⟨0, e.key, w.1, w.2⟩ : Pl) ∈ (plain L).map (·.1) then [w] else []⟩] := by
  show chO _ e.key e.t m.now 1 = _
  unfold chO
  show (chWs _ e.key m.now 0 (opW _ e.t 0)) ++ [] = _
  have ho : opW (⟨JX A c, m, L, d⟩ : Md) e.t 0 = [w] := hw
  rw [ho, List.append_nil]
  have hc : chW (⟨JX A c, m, L, d⟩ : Md) e.key m.now 0 w = some (chG ⟨JX A c, m, L, d⟩ e.key 0 w) := by
    unfold chW
    exact if_neg hg
  unfold chWs
  rw [List.filterMap_cons, hc]
  unfold chG
  rw [if_neg (by show ¬ (1 : Int) = 3; decide)]
  have := has_nil A c m L d ⟨(0 : Nat), e.key, w.1, w.2⟩
  show [_] = _
  congr 2
  by_cases h : (⟨JX A c, m, L, d⟩ : Md).has ⟨(0 : Nat), e.key, w.1, w.2⟩
  · exact (if_pos h).trans (if_pos (this.1 h)).symm
  · exact (if_neg h).trans (if_neg (fun h2 => h (this.2 h2))).symm
theorem w1X : winsL 1 10 0 3 = [(0, 10)] := by decide +kernel
theorem w2X : winsL 1 10 0 12 = [(10, 20)] := by decide +kernel
theorem w3X : winsL 1 10 0 4 = [(0, 10)] := by decide +kernel
theorem rec1 (A : Option Addr) (c : Nat) (L : List Pn) (hL : plain L = []) : Md.rec_ ⟨JX A c, kA (-1125899906842624), L, 0⟩ E1 = ([(p0, [0])], []) := by
  unfold Md.rec_
  rw [if_pos (show E1.k = 1 from rfl), chsX A c _ L 0 E1 (0, 10) w1X (by decide)]
  show recF (-1125899906842624) 0 _ (plain L) = _
  rw [hL]
  decide +kernel
theorem rec2 (A : Option Addr) (c : Nat) (L : List Pn) (hL : plain L = [(p0, [0])]) : Md.rec_ ⟨JX A c, kA 2, L, 0⟩ E2 = ([(p0, [0]), (p1, [0])], []) := by
  unfold Md.rec_
  rw [if_pos (show E2.k = 1 from rfl), chsX A c _ L 0 E2 (10, 20) w2X (by decide)]
  show recF (2) 0 _ (plain L) = _
  rw [hL]
  decide +kernel
theorem rec3 (A : Option Addr) (c : Nat) (L : List Pn) (hL : plain L = [(p0, [0]), (p1, [0])]) : Md.rec_ ⟨JX A c, kA 11, L, 0⟩ E3 = ([(p1, [0]), (p0, [0, 0])], [(p0, [0, 0])]) := by
  unfold Md.rec_
  rw [if_pos (show E3.k = 1 from rfl), chsX A c _ L 0 E3 (0, 10) w3X (by decide)]
  show recF (11) 0 _ (plain L) = _
  rw [hL]
  decide +kernel
theorem mk1 (A : Option Addr) (c : Nat) (L : List Pn) : Md.mk2 ⟨JX A c, kA (-1125899906842624), L, 0⟩ E1 = kA 2 := by
  show ((kA (-1125899906842624)).see 0 3).2.2 = _
  rfl
theorem mk2_ (A : Option Addr) (c : Nat) (L : List Pn) : Md.mk2 ⟨JX A c, kA 2, L, 0⟩ E2 = kA 11 := by
  show ((kA 2).see 0 12).2.2 = _
  rfl
theorem mk3 (A : Option Addr) (c : Nat) (L : List Pn) : Md.mk2 ⟨JX A c, kA 11, L, 0⟩ E3 = kA 11 := by
  show ((kA 11).see 0 4).2.2 = _
  rfl
theorem sort_nil : sortP [] = [] := by unfold sortP; simp
theorem sort_single (p : Pl) : sortP [p] = [p] := by unfold sortP; simp
theorem o2_1 (A : Option Addr) (c : Nat) (L : List Pn) (hL : plain L = []) : Md.o2 ⟨JX A c, kA (-1125899906842624), L, 0⟩ E1 = [] := by
  unfold Md.o2
  rw [mk1, rec1 A c L hL]
  unfold passO
  have e : (List.filter (fun y : Pl × List Int => dueB (-1125899906842624) 2 y.1) [(p0, [0])]) = [] := by decide +kernel
  show List.map _ (sortP (List.map _ (List.filter (fun y : Pl × List Int => dueB (-1125899906842624) 2 y.1) [(p0, [0])]))) = _
  rw [e]
  show List.map _ (sortP []) = _
  rw [sort_nil]
  rfl
theorem o2_2 (A : Option Addr) (c : Nat) (L : List Pn) (hL : plain L = [(p0, [0])]) : Md.o2 ⟨JX A c, kA 2, L, 0⟩ E2 = [(p0, [0])] := by
  unfold Md.o2
  rw [mk2_, rec2 A c L hL]
  unfold passO
  have e : (List.filter (fun y : Pl × List Int => dueB 2 11 y.1) [(p0, [0]), (p1, [0])]) = [(p0, [0])] := by decide +kernel
  show List.map _ (sortP (List.map _ (List.filter (fun y : Pl × List Int => dueB 2 11 y.1) [(p0, [0]), (p1, [0])]))) = _
  rw [e]
  show List.map _ (sortP [p0]) = _
  rw [sort_single]
  decide +kernel
theorem o2_3 (A : Option Addr) (c : Nat) (L : List Pn) (hL : plain L = [(p0, [0]), (p1, [0])]) : Md.o2 ⟨JX A c, kA 11, L, 0⟩ E3 = [] := by
  unfold Md.o2
  rw [mk3, rec3 A c L hL]
  unfold passO
  have e : (List.filter (fun y : Pl × List Int => dueB 11 11 y.1) [(p1, [0]), (p0, [0, 0])]) = [] := by decide +kernel
  show List.map _ (sortP (List.map _ (List.filter (fun y : Pl × List Int => dueB 11 11 y.1) [(p1, [0]), (p0, [0, 0])]))) = _
  rw [e]
  show List.map _ (sortP []) = _
  rw [sort_nil]
  rfl
theorem l2_1 (A : Option Addr) (c : Nat) (L : List Pn) (hL : plain L = []) : Md.l2 ⟨JX A c, kA (-1125899906842624), L, 0⟩ E1 = [(p0, [0])] := by
  unfold Md.l2
  rw [mk1, rec1 A c L hL]
  show passL 5 2 [(p0, [0])] = _
  decide +kernel
theorem l2_2 (A : Option Addr) (c : Nat) (L : List Pn) (hL : plain L = [(p0, [0])]) : Md.l2 ⟨JX A c, kA 2, L, 0⟩ E2 = [(p0, [0]), (p1, [0])] := by
  unfold Md.l2
  rw [mk2_, rec2 A c L hL]
  show passL 5 11 [(p0, [0]), (p1, [0])] = _
  decide +kernel
theorem l2_3 (A : Option Addr) (c : Nat) (L : List Pn) (hL : plain L = [(p0, [0]), (p1, [0])]) : Md.l2 ⟨JX A c, kA 11, L, 0⟩ E3 = [(p1, [0]), (p0, [0, 0])] := by
  unfold Md.l2
  rw [mk3, rec3 A c L hL]
  show passL 5 11 [(p1, [0]), (p0, [0, 0])] = _
  decide +kernel
end Go.Proofs.YtfojblbnhapedaaGreatDoor
