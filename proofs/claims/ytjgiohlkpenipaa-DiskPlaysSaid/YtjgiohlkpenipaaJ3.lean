/- Contract of the reference's with. Conditions: as each theorem states them. -/
import Derived.Test.YtjgiohlkpenipaaJ2
namespace Go.Proofs.Ytjgiohlkpenipaa
open Go.RowKit Go.Maps
set_option linter.unusedVariables false
set_option linter.unusedSimpArgs false

theorem bl_flip : ∀ a b : List UInt8, a ≠ b → Go.Op.bytesLess a b = !Go.Op.bytesLess b a
  | [], [], h => absurd rfl h
  | [], _ :: _, _ => rfl
  | _ :: _, [], _ => rfl
  | x :: xs, y :: ys, h => by
    unfold Go.Op.bytesLess
    by_cases e : x = y
    · subst e
      have h1 := bl_flip xs ys (fun e => h (by rw [e]))
      have h2 : decide (x < x) = false := decide_eq_false (by rw [UInt8.lt_iff_toNat_lt]; omega)
      rw [h2, h1]
      simp
    · have he : (x == y) = false := by simpa using e
      have he2 : (y == x) = false := by simpa using fun h => e h.symm
      have hn : x.toNat ≠ y.toNat := fun h => e (UInt8.toNat_inj.1 h)
      rw [he, he2]
      by_cases hl : x.toNat < y.toNat
      · rw [decide_eq_true (UInt8.lt_iff_toNat_lt.2 hl), decide_eq_false (by rw [UInt8.lt_iff_toNat_lt]; omega)]
        rfl
      · rw [decide_eq_false (by rw [UInt8.lt_iff_toNat_lt]; omega), decide_eq_true (UInt8.lt_iff_toNat_lt.2 (by omega))]
        rfl
theorem bl_lt : ∀ a b : List UInt8, Go.Op.bytesLess a b = decide (a < b)
  | a, [] => by
    have : ¬ a < [] := List.not_lt_nil a
    rw [decide_eq_false this]
    cases a <;> rfl
  | [], y :: ys => by
    rw [decide_eq_true (List.nil_lt_cons y ys)]
    rfl
  | x :: xs, y :: ys => by
    have h := bl_lt xs ys
    unfold Go.Op.bytesLess
    rw [h]
    by_cases e : x = y
    · subst e
      have h2 : ¬ x < x := by rw [UInt8.lt_iff_toNat_lt]; omega
      simp [List.cons_lt_cons_iff, h2]
    · simp [List.cons_lt_cons_iff, e]
theorem bLt_bl (a b : ByteArray) : bLt a b = Go.Op.bytesLess a.toList b.toList := by
  unfold bLt
  rw [bl_lt, ByteArray.toList_eq, ByteArray.toList_eq]
theorem gt_flip {x n : ByteArray} (h : x ≠ n) : Go.Op.bytesLess x.toList n.toList = !bLt n x := by
  rw [bLt_bl]
  exact bl_flip _ _ (fun e => h (by
    rw [ByteArray.toList_eq, ByteArray.toList_eq] at e
    cases x; cases n
    simp at e
    simp [e]))
/-- How far with has come. -/
def WithR (n : ByteArray) (k : Nat) (m out : Dir) (i : Nat) (put : Bool) : Prop :=
  if put then out ++ m.drop i = ins n k m else out = m.take i ∧ ins n k m = m.take i ++ ins n k (m.drop i)
theorem WithR.zero (n : ByteArray) (k : Nat) (m : Dir) : WithR n k m [] 0 false := by
  unfold WithR
  rw [if_neg (by decide)]
  exact ⟨rfl, rfl⟩
theorem WithR.len {n : ByteArray} {k : Nat} {m out : Dir} {i : Nat} {put : Bool} (h : WithR n k m out i put) : out.length ≤ m.length + 1 := by
  unfold WithR at h
  cases put with
  | true =>
    rw [if_pos rfl] at h
    have := congrArg List.length h
    rw [List.length_append, (ins_perm n k m).length_eq] at this
    simp at this
    omega
  | false =>
    rw [if_neg (by decide)] at h
    rw [h.1, List.length_take]
    omega
theorem WithR.go {n : ByteArray} {k : Nat} {m out : Dir} {i : Nat} (h : WithR n k m out i true) (hi : i < m.length) : WithR n k m (out ++ [m[i]]) (i + 1) true := by
  unfold WithR at *
  rw [if_pos rfl] at *
  rw [← h, List.drop_eq_getElem_cons hi, List.append_assoc]
  rfl
theorem WithR.skip {n : ByteArray} {k : Nat} {m out : Dir} {i : Nat} (h : WithR n k m out i false) (hi : i < m.length) (hb : bLt n (m[i]).1 = false) : WithR n k m (out ++ [m[i]]) (i + 1) false := by
  unfold WithR at *
  rw [if_neg (by decide)] at *
  obtain ⟨rfl, h2⟩ := h
  refine ⟨(List.take_succ_eq_append_getElem hi).symm, ?_⟩
  rw [h2, List.drop_eq_getElem_cons hi, List.take_succ_eq_append_getElem hi, List.append_assoc]
  congr 1
  show (if bLt n (m[i]).1 then (n, k) :: m[i] :: m.drop (i + 1) else m[i] :: ins n k (m.drop (i + 1))) = _
  rw [if_neg (by rw [hb]; decide)]
  rfl
theorem WithR.put {n : ByteArray} {k : Nat} {m out : Dir} {i : Nat} (h : WithR n k m out i false) (hi : i < m.length) (hb : bLt n (m[i]).1 = true) : WithR n k m (out ++ [(n, k)] ++ [m[i]]) (i + 1) true := by
  unfold WithR at *
  rw [if_neg (by decide)] at h
  rw [if_pos rfl]
  obtain ⟨rfl, h2⟩ := h
  rw [h2, List.drop_eq_getElem_cons hi, List.append_assoc, List.append_assoc]
  congr 1
  show _ = (if bLt n (m[i]).1 then (n, k) :: m[i] :: m.drop (i + 1) else m[i] :: ins n k (m.drop (i + 1)))
  rw [if_pos hb]
  rfl
theorem WithR.endT {n : ByteArray} {k : Nat} {m out : Dir} (h : WithR n k m out m.length true) : out = ins n k m := by
  unfold WithR at h
  rw [if_pos rfl, List.drop_length, List.append_nil] at h
  exact h
theorem WithR.endF {n : ByteArray} {k : Nat} {m out : Dir} (h : WithR n k m out m.length false) : out ++ [(n, k)] = ins n k m := by
  unfold WithR at h
  rw [if_neg (by decide), List.drop_length, List.take_length] at h
  rw [h.2, h.1]
  rfl
set_option maxRecDepth 100000 in
set_option maxHeartbeats 8000000 in
theorem with_any (v : Value) (l : Dir) (n : ByteArray) (k : Nat) (w : World) (h : w.ownsRow 0 104 2 v l.length (ecells l)) (hl : l.length ≤ 1000001) :
    Calls Try.prog 81 #[v, .string n, .int .i64 k] w fun e w' => ∃ v', e = .returned v' ∧ w'.ownsRow w.heap.size 104 2 v' (wi l n k).length (ecells (wi l n k)) ∧ Below w.heap.size w w' := by
  have HWO := Lib.hid (without_any v l n w h hl)
  have hwl := wo_le l n
  unfold wi
  obtain ⟨m, hm⟩ : ∃ m, wo l n = m := ⟨_, rfl⟩
  have HNE : Hid (∀ p ∈ m, p.1 ≠ n) := Lib.hid (fun p hp => by rw [← hm] at hp; exact (mem_wo.1 hp).2)
  rw [hm] at HWO hwl ⊢
  have hml : m.length ≤ 1000001 := by omega
  obtain ⟨A0, c0, rfl, _, _⟩ := own_slice h
  clear h hm hwl
  go_enter Try.func81, Try.ntmps81
  go_wp2_with (fail)
  refine HWO.out.mono ?_
  rintro r w1 ⟨v1, rfl, hr1, hb1⟩
  obtain ⟨A, c, rfl, hc, hg⟩ := own_slice hr1
  obtain ⟨N, hN⟩ : ∃ N, m.length = N := ⟨_, rfl⟩
  rw [hN] at hr1 hml hc hg ⊢
  have H := Lib.hid hr1
  have HN := Lib.hid hN
  have HG := Lib.hid hg
  have HB1 := Lib.hid hb1
  have hs1 := hb1.size
  clear hr1 hN hg hb1
  go_wp2_with (fail)
  go_loopw [7, 8, 9] (fun vo vp vi wr => ∃ (i : Nat) (out : Dir) (put : Bool), i ≤ N ∧ vi = .int .i64 i ∧ vp = .bool put ∧ WithR n k m out i put ∧ wr.ownsRow w1.heap.size 104 2 vo out.length (ecells out) ∧ Below w1.heap.size w1 wr) (fun _ _ i _ => N - (intOf i).toNat)
  case atStart => exact ⟨0, [], false, Nat.zero_le _, rfl, rfl, WithR.zero n k m, ⟨rfl, .inl ⟨rfl, rfl⟩⟩, Below.refl _ _⟩
  case round =>
    obtain ⟨i, out, put, hin, rfl, rfl, hwr, hown, hbl⟩ := hrel
    have HWR := Lib.hid hwr
    have HO := Lib.hid hown
    have HBL := Lib.hid hbl
    have hsz1 := hbl.size
    clear hwr hown hbl
    by_cases hi : i < N
    · have hi0 : (0 : Int) ≤ (i : Int) := by omega
      have hi1 : (i : Int) < (N : Int) := by omega
      obtain ⟨g, rfl⟩ : ∃ g, A = some ⟨g, 0, none⟩ := by
        rcases HG.out with h0 | h0
        · omega
        · exact h0
      have hil : i < m.length := by have := HN.out; omega
      obtain ⟨gl, _, gc, _, _⟩ := row_cells H.out
      obtain ⟨e0, e1⟩ := ecells_at hil
      have r0 := (HBL.out.cell (p := ⟨g, _, none⟩) gl).trans (gc _ _ e0)
      have r1 := (HBL.out.cell (p := ⟨g, _, none⟩) gl).trans (gc _ _ e1)
      have gl2 : g < wr.heap.size := by omega
      obtain ⟨x, hx⟩ : ∃ x, (m[i]).1 = x := ⟨_, rfl⟩
      obtain ⟨kk, hk⟩ : ∃ x, (m[i]).2 = x := ⟨_, rfl⟩
      rw [hx] at r0
      rw [hk] at r1
      clear gc e0 e1
      have hne : x ≠ n := by
        rw [← hx]
        exact HNE.out _ (List.getElem_mem _)
      have hfl := gt_flip hne
      have hnb := tl_ne hne
      have HP : Hid (m[i] = (x, kk)) := Lib.hid (by rw [← hx, ← hk])
      clear hx hk hne
      have hk0 : Hid (out.length ≤ 2000000) := Lib.hid (by have := HWR.out.len; have := HN.out; omega)
      have HA : Hid (∀ (W : World) (y : ByteArray) (j : Nat) (u : Value) (o : Dir), Below w1.heap.size w1 W → W.ownsRow w1.heap.size 104 2 u o.length (ecells o) → (W.alloc (Obj.cells #[.string y, .int .i64 j] 104)).ownsRow w1.heap.size 104 2 u o.length (ecells o) ∧ Below w1.heap.size w1 (W.alloc (Obj.cells #[.string y, .int .i64 j] 104)) ∧ w1.heap.size ≤ (W.alloc (Obj.cells #[.string y, .int .i64 j] 104)).heap.size) := Lib.hid (fun W y j u o hb ho => by
        have hb1 := bl_alloc (Below.refl W.heap.size W) (Obj.cells #[.string y, .int .i64 j] 104)
        have h2 := hb.trans (hb1.mono hb.size)
        exact ⟨own_kw ho (Kw.ofBelow (S := fun _ => False) hb1) (fun _ _ e => e), h2, h2.size⟩)
      have hlen : out.length ≤ 3000000 := by have := hk0.out; omega
      cases put with
      | true =>
        have HW2 := Lib.hid (HWR.out.go hil)
        rw [HP.out] at HW2
        obtain ⟨ho1, hb1, hs2⟩ := HA.out wr x kk _ out HBL.out HO.out
        have HO1 := Lib.hid ho1
        have HB2 := Lib.hid hb1
        have hbs := Lib.hid hs2
        clear ho1 hb1 hs2 hfl hnb
        go_wp2_with (at_builtin; refine wpList_append_e _ rfl _ _ rfl w1.heap.size _ _ out rfl HO1.out rfl wr.heap.size (x, kk) rfl (by go_simp) (by go_simp) hlen hbs.out ?_; intro v' w' ho' hg')
        exact ⟨⟨i + 1, out ++ [(x, kk)], true, by omega, by push_cast; rfl, rfl, HW2.out, ho', HB2.out.grown hg' hbs.out (fun g hg => (own_blk HO1.out hg).1)⟩, by simp [intOf]; omega⟩
      | false =>
        cases hb : bLt n x with
        | false =>
          have HW2 := Lib.hid (HWR.out.skip hil (by rw [HP.out]; exact hb))
          rw [HP.out] at HW2
          rw [hb] at hfl
          have hfl : Go.Op.bytesLess x.toList n.toList = true := hfl
          obtain ⟨ho1, hb1, hs2⟩ := HA.out wr x kk _ out HBL.out HO.out
          have HO1 := Lib.hid ho1
          have HB2 := Lib.hid hb1
          have hbs := Lib.hid hs2
          clear ho1 hb1 hs2 hb
          go_wp2_with (at_builtin; refine wpList_append_e _ rfl _ _ rfl w1.heap.size _ _ out rfl HO1.out rfl wr.heap.size (x, kk) rfl (by go_simp) (by go_simp) hlen hbs.out ?_; intro v' w' ho' hg')
          exact ⟨⟨i + 1, out ++ [(x, kk)], false, by omega, by push_cast; rfl, rfl, HW2.out, ho', HB2.out.grown hg' hbs.out (fun g hg => (own_blk HO1.out hg).1)⟩, by simp [intOf]; omega⟩
        | true =>
          have HW2 := Lib.hid (HWR.out.put hil (by rw [HP.out]; exact hb))
          rw [HP.out] at HW2
          rw [hb] at hfl
          have hfl : Go.Op.bytesLess x.toList n.toList = false := hfl
          obtain ⟨ho1, hb1, hs2⟩ := HA.out wr n k _ out HBL.out HO.out
          have HO1 := Lib.hid ho1
          have HB2 := Lib.hid hb1
          have hbs := Lib.hid hs2
          have hlen2 : (out ++ [(n, k)]).length ≤ 3000000 := by have := hk0.out; simp; omega
          have HRR : Hid (∀ W, Below w1.heap.size w1 W → W.cell? ⟨g, i * 2, none⟩ = some (.string x) ∧ W.cell? ⟨g, i * 2 + 1, none⟩ = some (.int .i64 kk) ∧ g < W.heap.size) := Lib.hid (fun W hb => by
            have q0 := HBL.out.cell (p := ⟨g, i * 2, none⟩) gl
            have q1 := HBL.out.cell (p := ⟨g, i * 2 + 1, none⟩) gl
            have := hb.size
            exact ⟨(hb.cell (p := ⟨g, i * 2, none⟩) gl).trans (q0.symm.trans r0), (hb.cell (p := ⟨g, i * 2 + 1, none⟩) gl).trans (q1.symm.trans r1), by omega⟩)
          clear ho1 hb1 hs2 hb
          go_wp2_with (first
            | (at_builtin; refine wpList_append_e _ rfl _ _ rfl w1.heap.size _ _ (out ++ [(n, k)]) rfl HO3.out rfl w2.heap.size (x, kk) rfl (by go_simp) (by go_simp) hlen2 HS3.out ?_; intro v3 w3 ho3 hg3)
            | (at_builtin; refine wpList_append_e _ rfl _ _ rfl w1.heap.size _ _ out rfl HO1.out rfl wr.heap.size (n, k) rfl (by go_simp) (by go_simp) hlen hbs.out ?_; intro v2 w2 ho2 hg2; have hb2 := HB2.out.grown hg2 hbs.out (fun g hg => (own_blk HO1.out hg).1); obtain ⟨s0, s1, s2⟩ := HRR.out w2 hb2; have HQ := Lib.hid (HA.out w2 x kk v2 (out ++ [(n, k)]) hb2 ho2); have HO3 := Lib.hid HQ.out.1; have HB3 := Lib.hid HQ.out.2.1; have HS3 := Lib.hid HQ.out.2.2; clear hb2 ho2 hg2 HQ))
          exact ⟨⟨i + 1, out ++ [(n, k)] ++ [(x, kk)], true, by omega, by push_cast; rfl, rfl, HW2.out, ho3, HB3.out.grown hg3 HS3.out (fun g hg => (own_blk HO3.out hg).1)⟩, by simp [intOf]; omega⟩
    · have hi1 : ¬ (i : Int) < (N : Int) := by omega
      have hie : i = m.length := by have := HN.out; omega
      have hk0 : Hid (out.length ≤ 2000000) := Lib.hid (by have := HWR.out.len; have := HN.out; omega)
      have hlen : out.length ≤ 3000000 := by have := hk0.out; omega
      cases put with
      | true =>
        have HE : Hid (out = ins n k m) := Lib.hid (by
          have := HWR.out
          rw [hie] at this
          exact this.endT)
        clear hie
        go_wp2_with (fail)
        go_ret
        have := HO.out
        rw [HE.out] at this
        exact ⟨_, rfl, row_base this hs1, HB1.out.trans (HBL.out.mono hs1)⟩
      | false =>
        have HE : Hid (out ++ [(n, k)] = ins n k m) := Lib.hid (by
          have := HWR.out
          rw [hie] at this
          exact this.endF)
        have hb1 := bl_alloc (Below.refl wr.heap.size wr) (Obj.cells #[.string n, .int .i64 k] 104)
        have HO1 := Lib.hid (own_kw HO.out (Kw.ofBelow (S := fun _ => False) hb1) (fun _ _ e => e))
        have HB2 := Lib.hid (HBL.out.trans (hb1.mono hsz1))
        have hbs := Lib.hid HB2.out.size
        clear hie hb1
        go_wp2_with (at_builtin; refine wpList_append_e _ rfl _ _ rfl w1.heap.size _ _ out rfl HO1.out rfl wr.heap.size (n, k) rfl (by go_simp) (by go_simp) hlen hbs.out ?_; intro v' w' ho' hg')
        have HB3 := Lib.hid (HB2.out.grown hg' hbs.out (fun g hg => (own_blk HO1.out hg).1))
        have HO3 := Lib.hid ho'
        clear ho' hg'
        go_wp2_with (fail)
        go_ret
        have := HO3.out
        rw [HE.out] at this
        exact ⟨_, rfl, row_base this hs1, HB1.out.trans (HB3.out.mono hs1)⟩
end Go.Proofs.Ytjgiohlkpenipaa
