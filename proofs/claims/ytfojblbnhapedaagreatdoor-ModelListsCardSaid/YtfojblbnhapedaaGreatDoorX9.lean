/- What is told of a choice of places hangs on them alone; a key's outputs do not hang on other keys. Conditions: as each theorem states them. -/
import Derived.Test.YtfojblbnhapedaaGreatDoorX3
import Derived.Test.YtfojblbnhapedaaGreatDoorV4
namespace Go.Proofs.YtfojblbnhapedaaGreatDoor
open Go.RowKit Go.Maps
set_option linter.unusedVariables false
set_option linter.unusedSimpArgs false

def startQ (j : Jb) : QS := (Mk.new j.sources.toNat j.bound, [])
theorem okM_start {j : Jb} (hj : jobP j) : OkM (startQ j).1 := by
  have h := hj.1
  exact okM_new ⟨by have := h.2.2.1; omega, by have := h.2.2.2.1; omega, h.2.2.2.2.1, h.2.2.2.2.2.1⟩
theorem good_nil (j : Jb) : GoodL j [] := ⟨List.Pairwise.nil, (fun y h => by cases h), (fun y h => by cases h), (fun y h => by cases h)⟩
/-- A new model is a good one. -/
theorem new_st (j : Jb) (w : World) (hA : RdP w j.A j.ops) (hc : j.ops.length ≤ j.c) (hcb : j.c ≤ 9223372036854775807) (hj : jobP j) (ht : Tab w) : Calls Tryz.prog 14 #[jbV j] w fun e w' => ∃ B A' c', e = .returned (.tuple #[ptrV B.bm, .int .i64 0]) ∧ Below w.heap.size w w' ∧ (∀ b, S3 B b → w.heap.size ≤ b) ∧ (∀ a, A' = some a → w.heap.size ≤ a.block) ∧ St w' B { j with A := A', c := c' } (startQ j) 0 := by
  refine (new_yes j w hA hc hcb hj).mono ?_
  rintro e w' ⟨B, A', c', he, hb, h1, h2, h3, ha, hcc, hm⟩
  have hs : ∀ b, S3 B b → w.heap.size ≤ b := fun b hs => by rcases hs with e | e | e <;> rw [e] <;> assumption
  refine ⟨B, A', c', he, hb, hs, ha, ⟨[], 0, rfl, hm, Int.le_refl _, by omega⟩, ⟨okM_start hj, hj, hcc.1, hcc.2, hj.1.2.2.2.2.2.2.1, hj.1.2.2.2.2.2.2.2.1⟩, good_nil _, by show 0 ≤ 1024; omega, by show tot [] ≤ _; decide, fun Q _ => by show tot [] ≤ _; decide, ht.below hb, fun h => ?_⟩
  have := hs _ h
  have := ht.lt
  omega
/-- How many outputs an event has at most. -/
theorem tell_len {w : World} {B : Lo} {j : Jb} {s : QS} {n : Nat} (h : St w B j s n) (e : Ev) : (tellQ j s e).length ≤ 3000 := by
  obtain ⟨L, d, hL, hm, _, _⟩ := h.md
  obtain ⟨m, P⟩ := s
  dsimp only at hL hm
  subst hL
  unfold tellQ
  split
  · rename_i hc
    obtain ⟨⟨hb, hk⟩, hlg⟩ := hc
    have ok : OkMd ⟨j, m, L, d⟩ := h.ok.to
    have hrec : Md.rec_ ⟨j, m, L, d⟩ e = recQ j (m, plain L) e := rec_of (M := ⟨j, m, L, d⟩) ok.job h.good hb.2.2.1 hb.2.2.2
    have h1 : (recQ j (m, plain L) e).2.length ≤ 1000 := by
      rw [← hrec]
      unfold Md.rec_
      split
      · have h2 := recF_outs m.now e.v (Md.chs ⟨j, m, L, d⟩ e) (plain L) _ (Nat.le_refl _)
        rw [List.take_length] at h2
        exact Nat.le_trans h2 (chs_len ⟨j, m, L, d⟩ e ok hb.2.2.1 hb.2.2.2)
      · exact Nat.zero_le _
    have h2 : (recQ j (m, plain L) e).1.length ≤ 1024 := by
      by_cases he : e.k = 1
      · exact Nat.le_of_not_lt fun h3 => hlg ⟨he, h3⟩
      · unfold recQ
        rw [if_neg he]
        exact h.len
    have h3 : (dueQ j (m, plain L) e).length ≤ (recQ j (m, plain L) e).1.length := passO_len _ _ _
    rw [List.length_append, List.length_map, List.length_map]
    omega
  · exact Nat.zero_le _
/-- No row of outputs is one of the model's blocks. -/
theorem st_not {w : World} {B : Lo} {j : Jb} {s : QS} {n : Nat} (h : St w B j s n) {t : TypeId} (h1 : t ≠ 87) (h2 : t ≠ 126) : ∀ g cur, w.heap[g]? = some (Obj.cells cur t) → ¬ S3 B g := by
  obtain ⟨L, d, hL, hm, _, _⟩ := h.md
  rintro g cur hg (e | e | e)
  · have := hm.md
    rw [← e, hg] at this
    injection this with h
    injection h with _ h
    exact h1 h
  · have := hm.mks
    unfold MkAt at this
    rw [← e, hg] at this
    injection this with h
    injection h with _ h
    exact h2 h
  · obtain ⟨es, clock, hmm⟩ := hm.mapc
    rw [← e, hg] at hmm
    cases hmm
/-- A run. -/
def stepO (j : Jb) : Option (QS × List Ot) → Ev → Option (QS × List Ot)
  | none, _ => none
  | some s, e => if codeQ j s.1 e = 3 then none else some (goQ j s.1 e, s.2 ++ tellQ j s.1 e)
def runQ (j : Jb) (l : List Ev) : Option (QS × List Ot) := l.foldl (stepO j) (some (startQ j, []))
theorem run_none (j : Jb) : ∀ l : List Ev, l.foldl (stepO j) none = none
  | [] => rfl
  | _ :: l => run_none j l
theorem runQ_take (j : Jb) (l : List Ev) (k : Nat) (h : k < l.length) : runQ j (l.take (k + 1)) = stepO j (runQ j (l.take k)) l[k] := by
  unfold runQ
  rw [List.take_succ_eq_append_getElem h, List.foldl_append]
  rfl
theorem runQ_stop {j : Jb} {l : List Ev} {k : Nat} (h : runQ j (l.take k) = none) : runQ j l = none := by
  have e : l = l.take k ++ l.drop k := (List.take_append_drop k l).symm
  unfold runQ at h ⊢
  rw [e, List.foldl_append, h]
  exact run_none j _
theorem code3 {j : Jb} {s : QS} {e : Ev} : codeQ j s e = 0 ∨ codeQ j s e = 2 ∨ codeQ j s e = 3 := by
  unfold codeQ
  split
  · exact .inr (.inl rfl)
  · split
    · exact .inr (.inr rfl)
    · exact .inl rfl
def allQ (j : Jb) (l : List Ev) : Option (List Ot) := if jobP j then (runQ j l).map (·.2) else none
/-- What all answers. -/
def AllR (w : World) (j : Jb) (l : List Ev) (r : Ending) (w' : World) : Prop :=
  Below w.heap.size w w' ∧ ∃ v b, r = .returned (.tuple #[v, .bool b]) ∧ ((b = false ∧ v = .slice none 0 0 ∧ allQ j l = none) ∨ ∃ o, b = true ∧ allQ j l = some o ∧ o.length ≤ 3000 * l.length ∧ w'.ownsRow w.heap.size 56 6 v o.length (otcells FT j o))
end Go.Proofs.YtfojblbnhapedaaGreatDoor
namespace Go.Proofs.YtfojblbnhapedaaGreatDoor
open Go.RowKit Go.Maps
set_option linter.unusedVariables false
set_option linter.unusedSimpArgs false

theorem otcells_one (F : Int → List Int → ByteArray) (j : Jb) : ∀ (l : List Ot), ∀ u ∈ otcells F j l, u.oneCell' = true := by
  intro l u hu
  obtain ⟨o, _, ho⟩ := List.mem_flatMap.1 hu
  simp only [List.mem_cons, List.not_mem_nil, or_false] at ho
  rcases ho with rfl | rfl | rfl | rfl | rfl | rfl <;> rfl
theorem St.kw {w w' : World} {B : Lo} {j : Jb} {s : QS} {n : Nat} (h : St w B j s n) {S : Nat → Prop} (k : Kw S w w') (h0 : ¬ S tabG) (hS : ∀ L d, MdAt w B ⟨j, s.1, L, d⟩ → MdAt w' B ⟨j, s.1, L, d⟩) : St w' B j s n := by
  obtain ⟨L, d, hL, hm, hd⟩ := h.md
  exact ⟨⟨L, d, hL, hS L d hm, hd⟩, h.ok, h.good, h.len, h.tt, h.thin, h.tab.kw k h0, h.tb⟩
theorem St.below {w w' : World} {B : Lo} {j : Jb} {s : QS} {n : Nat} (h : St w B j s n) (k : Below w.heap.size w w') : St w' B j s n :=
  h.kw (S := fun _ => False) (Kw.ofBelow k) (fun h => h) (fun L d hm => hm.below k)
theorem St.own {w w' : World} {B : Lo} {j : Jb} {s : QS} {n : Nat} (h : St w B j s n) {v : Value} {base e sz m : Nat} {xs : List Value} (ho : w.ownsRow base e sz v m xs) (g : w.grownBy w' v.ownBlock) (he1 : e ≠ 87) (he2 : e ≠ 126) (he3 : e ≠ 2) (hA : ∀ a, j.A = some a → a.block < base) (hb : tabG < base) : St w' B j s n :=
  h.kw ((Kw.refl (fun b => v.ownBlock = some b) w).grown g (fun k hk => hk)) (fun e => by have := (ho.lt _ e).1; omega) (fun L d hm => hm.own ho g he1 he2 hA (.inl he3))
/-- Where a model's operators stand. -/
theorem St.opa {w : World} {B : Lo} {j : Jb} {s : QS} {n : Nat} (h : St w B j s n) : ∀ a, j.A = some a → a.block < w.heap.size := by
  obtain ⟨L, d, hL, hm, hd⟩ := h.md
  exact fun a ha => (hm.opa a ha).1
set_option maxRecDepth 100000 in
set_option maxHeartbeats 4000000 in
theorem all_no (j : Jb) (l : List Ev) (A : Option Addr) (c : Nat) (w : World) (hA : RdP w j.A j.ops) (hc : j.ops.length ≤ j.c) (hcb : j.c ≤ 9223372036854775807) (hj : ¬ jobP j) : Calls Tryz.prog 18 #[jbV j, .slice A l.length c] w (AllR w j l) := by
  have hb := bl_alloc (Below.refl w.heap.size w) (Obj.cells #[.int .i64 j.groups, .int .i64 j.sources, .int .i64 j.bound, .int .i64 j.late, .slice j.A j.ops.length j.c] 24)
  have HN := Lib.hid (new_no j _ (hA.below hb) hc hcb hj)
  have HB := Lib.hid hb
  have HQ : Hid (allQ j l = none) := Lib.hid (by unfold allQ; rw [if_neg hj])
  unfold jbV at *
  clear hA hb hj
  go_enter Tryz.func18, Tryz.ntmps18
  go_wp2_with (fail)
  refine HN.out.mono ?_
  rintro e w1 ⟨rfl, hb1⟩
  have HB1 := Lib.hid (bl_then HB.out hb1)
  clear hb1
  go_wp2_with (fail)
  go_ret2
  exact ⟨HB1.out, _, _, rfl, .inl ⟨rfl, rfl, HQ.out⟩⟩
set_option maxRecDepth 100000 in
set_option maxHeartbeats 4000000 in
theorem all_yes (j : Jb) (l : List Ev) (A : Option Addr) (c : Nat) (w : World) (hA : RdP w j.A j.ops) (hc : j.ops.length ≤ j.c) (hcb : j.c ≤ 9223372036854775807) (hj : jobP j) (ht : Tab w) (hE : RdE w A l) (hlc : l.length ≤ c) (hcm : c ≤ 9223372036854775807) (hl : l.length ≤ 61) : Calls Tryz.prog 18 #[jbV j, .slice A l.length c] w (AllR w j l) := by
  have hb := bl_alloc (Below.refl w.heap.size w) (Obj.cells #[.int .i64 j.groups, .int .i64 j.sources, .int .i64 j.bound, .int .i64 j.late, .slice j.A j.ops.length j.c] 24)
  have HN := Lib.hid (new_st j _ (hA.below hb) hc hcb hj (ht.below hb))
  have HB := Lib.hid hb
  have HE := Lib.hid hE
  have HQ : Hid (allQ j l = (runQ j l).map (·.2)) := Lib.hid (by unfold allQ; rw [if_pos hj])
  obtain ⟨jj, hjj⟩ : ∃ jj, jj = j := ⟨_, rfl⟩
  obtain ⟨gr, so, bo, la, ops, jA, jc⟩ := j
  unfold jbV at *
  dsimp only at *
  clear hA hb hj ht hE
  go_enter Tryz.func18, Tryz.ntmps18
  go_wp2_with (fail)
  refine HN.out.mono ?_
  rintro e w1 ⟨B, A', c', rfl, hb1, hs3, _, hst⟩
  have HB1 := Lib.hid (bl_then HB.out hb1)
  have HS3 : Hid (∀ b, S3 B b → w.heap.size ≤ b) := Lib.hid (fun b hb => Nat.le_trans HB.out.size (hs3 b hb))
  have HST := Lib.hid hst
  clear hb1 hs3 hst
  unfold ptrV
  go_wp2_with (fail)
  obtain ⟨j', hj'⟩ : ∃ j' : Jb, j' = ⟨gr, so, bo, la, ops, A', c'⟩ := ⟨_, rfl⟩
  have HJ' := Lib.hid hj'
  have HOPA : Hid (∀ a, j'.A = some a → a.block < w1.heap.size) := Lib.hid (by rw [hj']; exact HST.out.opa)
  have HTB : Hid (tabG < w1.heap.size) := Lib.hid HST.out.tab.lt
  have HW1 := Lib.hid HB1.out.size
  have HST : Hid (St w1 B j' (startQ j') 0) := Lib.hid (by rw [hj']; exact HST.out)
  clear hj'
  go_loopw [8, 9] (fun v i wr => ∃ (k : Nat) (s : QS) (o : List Ot), k ≤ l.length ∧ i = .int .i64 k ∧ runQ j' (l.take k) = some (s, o) ∧ o.length ≤ 3000 * k ∧ wr.ownsRow w1.heap.size 56 6 v o.length (otcells FT j' o) ∧ St wr B j' s k ∧ Below w.heap.size w wr ∧ w1.heap.size ≤ wr.heap.size) (fun _ i _ => l.length - (intOf i).toNat)
  case atStart => exact ⟨0, startQ j', [], Nat.zero_le _, rfl, rfl, Nat.zero_le _, World.ownsRow_nil _ _ _ _, HST.out, HB1.out, Nat.le_refl _⟩
  case round =>
    obtain ⟨k, s, o, hk, rfl, hrun, holen, hown, hst, hbl, hsz1⟩ := hrel
    by_cases hlt : k < l.length
    · obtain ⟨b, off, rfl, hbw, hcell⟩ := HE.out.at_ (by omega)
      obtain ⟨c0, c1, c2, c3, c4⟩ := hcell k hlt
      have d0 := (hbl.cell (p := ⟨b, off + k * 5, none⟩) hbw).trans c0
      have d1 := (hbl.cell (p := ⟨b, off + k * 5 + 1, none⟩) hbw).trans c1
      have d2 := (hbl.cell (p := ⟨b, off + k * 5 + 2, none⟩) hbw).trans c2
      have d3 := (hbl.cell (p := ⟨b, off + k * 5 + 3, none⟩) hbw).trans c3
      have d4 := (hbl.cell (p := ⟨b, off + k * 5 + 4, none⟩) hbw).trans c4
      have hbr : b < wr.heap.size := Nat.lt_of_lt_of_le hbw hbl.size
      have hem := HE.out.2 l[k] (List.getElem_mem _)
      have HD := Lib.hid (do_q tells_FT hst (by omega) l[k] hem.1 hem.2)
      have HTL := Lib.hid (tell_len hst l[k])
      have HSR := Lib.hid (runQ_take j' l k hlt)
      rw [hrun] at HSR
      have HRS := Lib.hid (runQ_stop (j := j') (l := l) (k := k + 1))
      have HNT := Lib.hid (st_not hst (t := 56) (by decide) (by decide))
      have HO := Lib.hid hown
      have HBL := Lib.hid hbl
      have hbsz := hbl.size
      generalize l[k] = ev at *
      obtain ⟨ek, esrc, et, ekey, evv⟩ := ev
      unfold evV ptrV at HD
      dsimp only at d0 d1 d2 d3 d4 HD
      clear hem hcell c0 c1 c2 c3 c4 hown hbl hst hrun
      go_wp2_with (fail)
      refine HD.out.mono ?_
      rintro e w2 ⟨v2, rfl, ho2, hst2, hk2⟩
      have HB2 : Hid (Below w.heap.size w w2) := Lib.hid (HBL.out.trans (hk2.below HBL.out.size (fun b hb => HS3.out b hb)))
      have HO2 := Lib.hid (own_kwB HO.out hk2 HNT.out)
      have HV2 := Lib.hid ho2
      have HST2 := Lib.hid hst2
      have HK2 := Lib.hid hk2.size
      by_cases h3 : codeQ j' s ⟨ek, esrc, et, ekey, evv⟩ = 3
      · have HRN : Hid (runQ j' l = none) := Lib.hid (HRS.out (by rw [HSR.out]; show (if _ then _ else _) = _; rw [if_pos h3]))
        rw [h3]
        clear ho2 hst2 hk2 h3
        go_wp2_with (fail)
        go_ret2
        refine ⟨HB2.out, _, _, rfl, .inl ⟨rfl, rfl, ?_⟩⟩
        rw [HQ.out]
        have := HRN.out
        rw [HJ'.out] at this
        exact congrArg (Option.map (·.2)) this
      · have HRN : Hid (runQ j' (l.take (k + 1)) = some (goQ j' s ⟨ek, esrc, et, ekey, evv⟩, o ++ tellQ j' s ⟨ek, esrc, et, ekey, evv⟩)) := Lib.hid (by rw [HSR.out]; show (if _ then _ else _) = _; rw [if_neg h3])
        have hc02 : codeQ j' s ⟨ek, esrc, et, ekey, evv⟩ = 0 ∨ codeQ j' s ⟨ek, esrc, et, ekey, evv⟩ = 2 := by
          rcases code3 (j := j') (s := s) (e := ⟨ek, esrc, et, ekey, evv⟩) with h | h | h
          · exact .inl h
          · exact .inr h
          · exact absurd h h3
        have hsum : o.length + (tellQ j' s ⟨ek, esrc, et, ekey, evv⟩).length ≤ 3000 * (k + 1) := by have := HTL.out; omega
        have HON := Lib.hid (otcells_one FT j' (tellQ j' s ⟨ek, esrc, et, ekey, evv⟩))
        generalize goQ j' s ⟨ek, esrc, et, ekey, evv⟩ = s2 at *
        generalize tellQ j' s ⟨ek, esrc, et, ekey, evv⟩ = o2 at *
        generalize codeQ j' s ⟨ek, esrc, et, ekey, evv⟩ = cd at *
        have hbz : w1.heap.size ≤ w2.heap.size := Nat.le_trans hsz1 HK2.out
        obtain ⟨n1, hn1⟩ : ∃ n1, n1 = o.length := ⟨_, rfl⟩
        obtain ⟨n2, hn2⟩ : ∃ n2, n2 = o2.length := ⟨_, rfl⟩
        rw [← hn1] at HO2 hsum
        rw [← hn2] at HV2 hsum
        have HN1 := Lib.hid hn1
        have HN2 := Lib.hid hn2
        have HHS := Lib.hid hsum
        have hsum2 : n1 + n2 ≤ 4000000 := by omega
        clear ho2 hst2 hk2 h3 hn1 hn2 hsum HTL HSR HRS HNT HO
        have hend : ∀ v' w5, w5.ownsRow w1.heap.size 56 6 v' (n1 + n2) (otcells FT j' o ++ otcells FT j' o2) → w2.grownBy w5 u8.ownBlock → St w5 B j' s2 (k + 1) ∧ Below w.heap.size w w5 := fun v' w5 h5 hg5 => by
          have hbb : Below w.heap.size w w5 := HB2.out.grown hg5 HB2.out.size (fun b hb => Nat.le_trans HW1.out (HO2.out.lt b hb).1)
          exact ⟨HST2.out.own HO2.out hg5 (by decide) (by decide) (by decide) HOPA.out HTB.out, hbb⟩
        have HEND := Lib.hid hend
        clear hend
        rcases hc02 with rfl | rfl
        all_goals (
          go_wp2_with (at_builtin; refine wpList_append_row _ rfl _ _ 50 56 6 64 (.agg #[.int .i64 0, .string ⟨#[]⟩, .int .i64 0, .int .i64 0, .string ⟨#[]⟩, .bool false]) und50 i56 rfl (by decide) (by decide) rfl w1.heap.size wr.heap.size n1 u8 _ rfl HO2.out v2 n2 _ rfl HV2.out HON.out hsum2 hbz ?_)
          intro v7 w7 ho7 hg7 hl7
          obtain ⟨hst7, hb7⟩ := HEND.out v7 w7 ho7 hg7
          have HST7 := Lib.hid hst7
          have HB7 := Lib.hid hb7
          have HSZ7 := Lib.hid (Nat.le_trans hbz hg7.size)
          have HO7 : Hid (w7.ownsRow w1.heap.size 56 6 v7 (o ++ o2).length (otcells FT j' (o ++ o2))) := Lib.hid (by rw [otcells_app, List.length_append, ← HN1.out, ← HN2.out]; exact ho7)
          clear ho7 hg7 hl7 hst7 hb7
          go_wp2_with (fail)
          exact ⟨⟨k + 1, s2, o ++ o2, hlt, by push_cast; rfl, HRN.out, by rw [List.length_append, ← HN1.out, ← HN2.out]; exact HHS.out, HO7.out, HST7.out, HB7.out, HSZ7.out⟩, by simp only [intOf]; omega⟩)
    · have hke : k = l.length := by omega
      subst hke
      rw [List.take_length] at hrun
      have HRN := Lib.hid hrun
      have HO := Lib.hid hown
      have HBL := Lib.hid hbl
      clear hown hbl hst hrun
      go_wp2_with (fail)
      go_ret2
      refine ⟨HBL.out, _, _, rfl, .inr ⟨o, rfl, ?_, holen, ?_⟩⟩
      · rw [HQ.out]
        have := HRN.out
        rw [HJ'.out] at this
        exact congrArg (Option.map (·.2)) this
      · have := own_weaken HO.out HW1.out
        rw [HJ'.out] at this
        exact this
end Go.Proofs.YtfojblbnhapedaaGreatDoor
namespace Go.Proofs.YtfojblbnhapedaaGreatDoor
open Go.RowKit Go.Maps
set_option linter.unusedVariables false
set_option linter.unusedSimpArgs false

theorem sortP_filter (Q : Pl → Bool) (l : List Pl) : (sortP l).filter Q = sortP (l.filter Q) :=
  sortP_uniq ((sortP_perm l).filter _) ((sortP_sorted l).sublist List.filter_sublist)
theorem passO_sel (Q : Pl → Bool) (was now : Int) (L : PL) : selL Q (passO was now L) = passO was now (selL Q L) := by
  have h1 : ((L.filter fun y => dueB was now y.1).map (·.1)).filter Q = ((selL Q L).filter fun y => dueB was now y.1).map (·.1) := by
    unfold selL
    rw [List.filter_map, List.filter_filter, List.filter_filter]
    congr 1
    congr 1
    funext y
    exact Bool.and_comm _ _
  unfold passO
  rw [← h1, ← sortP_filter]
  show List.filter _ (List.map _ _) = _
  rw [List.filter_map]
  refine List.map_congr_left fun p hp => ?_
  have hp : Q p = true := (List.mem_filter.1 hp).2
  rw [val_sel hp]
/-- The outputs of chosen places. -/
theorem tell_sel (Q : Pl → Bool) (j : Jb) (s : QS) (e : Ev) : (tellQ j s e).filter (fun o => Q o.1) = if evOk j e ∧ ¬ longQ j s e then (selL Q (recQ j s e).2).map (fun o => (o.1, o.2, true)) ++ (passO s.1.now (mkQ s.1 e).now (selL Q (recQ j s e).1)).map (fun o => (o.1, o.2, false)) else [] := by
  unfold tellQ
  split
  · rw [List.filter_append, List.filter_map, List.filter_map, ← passO_sel]
    rfl
  · rfl
def QK (K : ByteArray) (p : Pl) : Bool := decide (p.key = K)
theorem chgP_key (j : Jb) (P : PL) (key : ByteArray) (o : Nat) (w : Int × Int) : (chgP j P key o w).p.key = key ∧ (chgP j P key o w).p.op = o := by
  unfold chgP
  split <;> exact ⟨rfl, rfl⟩
theorem chsP_mem {j : Jb} {P : PL} {key : ByteArray} {t was : Int} {c : Chg} (h : c ∈ chsP j P key t was) : ∃ i, i < j.ops.length ∧ ∃ w ∈ opsW j i t, c = chgP j P key i w := by
  unfold chsP at h
  obtain ⟨i, hi, h⟩ := List.mem_flatMap.1 h
  obtain ⟨w, hw, h⟩ := List.mem_filterMap.1 h
  unfold chwP at h
  split at h
  · cases h
  · exact ⟨i, List.mem_range.1 hi, w, hw, (Option.some.inj h).symm⟩
theorem chsP_key {j : Jb} {P : PL} {key : ByteArray} {t was : Int} {c : Chg} (h : c ∈ chsP j P key t was) : c.p.key = key := by
  obtain ⟨i, _, w, _, rfl⟩ := chsP_mem h
  exact (chgP_key j P key i w).1
theorem pure_key (K : ByteArray) (c : Chg) : pureC (QK K) c := fun w _ => rfl
theorem winsP_sel {Q : Pl → Bool} (P : PL) (op : Int) (key : ByteArray) (h : ∀ p : Pl, p.op = op → p.key = key → Q p = true) : winsP (selL Q P) op key = winsP P op key := by
  unfold winsP pickP selL
  rw [List.filter_filter]
  congr 2
  refine List.filter_congr fun y _ => ?_
  by_cases hy : y.1.op = op ∧ y.1.key = key
  · rw [h y.1 hy.1 hy.2]; simp
  · simp [hy]
theorem keys_sel {Q : Pl → Bool} {P : PL} {p : Pl} (h : Q p = true) : p ∈ (selL Q P).map (·.1) ↔ p ∈ P.map (·.1) := by
  unfold selL
  constructor
  · intro hp
    obtain ⟨y, hy, rfl⟩ := List.mem_map.1 hp
    exact List.mem_map.2 ⟨y, (List.mem_filter.1 hy).1, rfl⟩
  · intro hp
    obtain ⟨y, hy, rfl⟩ := List.mem_map.1 hp
    exact List.mem_map.2 ⟨y, List.mem_filter.2 ⟨hy, h⟩, rfl⟩
theorem chgP_sel {Q : Pl → Bool} (j : Jb) (P : PL) (key : ByteArray) (o : Nat) (w : Int × Int) (h : ∀ p : Pl, p.op = o → p.key = key → Q p = true) : chgP j (selL Q P) key o w = chgP j P key o w := by
  unfold chgP
  rw [winsP_sel P o key h]
  have h2 := keys_sel (P := P) (h ⟨o, key, w.1, w.2⟩ rfl rfl)
  split
  · rfl
  · by_cases hm : (⟨o, key, w.1, w.2⟩ : Pl) ∈ P.map (·.1)
    · rw [if_pos hm, if_pos (h2.2 hm)]
    · rw [if_neg hm, if_neg fun hh => hm (h2.1 hh)]
theorem chsP_selK (j : Jb) (P : PL) (K : ByteArray) (t was : Int) : chsP j (selL (QK K) P) K t was = chsP j P K t was := by
  unfold chsP
  rw [List.flatMap_def, List.flatMap_def]
  congr 1
  refine List.map_congr_left fun o _ => filterMap_eq _ fun w _ => ?_
  unfold chwP
  rw [chgP_sel (Q := QK K) j P K o w fun p _ hk => decide_eq_true hk]
/-- A record of the key, seen through the key. -/
theorem rec_key {j : Jb} {s : QS} {e : Ev} {K : ByteArray} (he : e.k = 1) (hk : e.key = K) : (selL (QK K) (recQ j s e).1, selL (QK K) (recQ j s e).2) = recF s.1.now e.v (chsP j (selL (QK K) s.2) K e.t s.1.now) (selL (QK K) s.2) := by
  subst hk
  unfold recQ
  rw [if_pos he, chsP_selK]
  have h := recF_sel (QK e.key) s.1.now e.v (chsP j s.2 e.key e.t s.1.now) (s.2, []) (selL (QK e.key) s.2, []) (fun c _ => pure_key _ c) rfl
  have h2 : (chsP j s.2 e.key e.t s.1.now).filter (fun c => QK e.key c.p) = chsP j s.2 e.key e.t s.1.now := List.filter_eq_self.2 fun c hc => decide_eq_true (chsP_key hc)
  rw [h2] at h
  unfold recF
  rw [h]
theorem rec_other {j : Jb} {s : QS} {e : Ev} {K : ByteArray} (he : e.k = 1) (hk : e.key ≠ K) : selL (QK K) (recQ j s e).1 = selL (QK K) s.2 ∧ selL (QK K) (recQ j s e).2 = [] := by
  unfold recQ
  rw [if_pos he]
  have h := recF_sel (QK K) s.1.now e.v (chsP j s.2 e.key e.t s.1.now) (s.2, []) (selL (QK K) s.2, []) (fun c _ => pure_key _ c) rfl
  have h2 : (chsP j s.2 e.key e.t s.1.now).filter (fun c => QK K c.p) = [] := List.filter_eq_nil_iff.2 fun c hc hq => hk ((chsP_key hc).symm.trans (of_decide_eq_true hq))
  rw [h2] at h
  have h := Prod.mk.inj h
  unfold recF
  exact ⟨h.1.symm, h.2.symm⟩
theorem rec_none {j : Jb} {s : QS} {e : Ev} (he : e.k ≠ 1) : recQ j s e = (s.2, []) := by
  unfold recQ
  rw [if_neg he]
/-- The other keys are turned. -/
def turnK (K O : ByteArray) (e : Ev) : Ev := if e.k = 1 ∧ e.key ≠ K ∧ e.key.size ≤ 64 then { e with key := O, v := 1 } else e
/-- Two states are alike at a key. -/
structure SimK (K : ByteArray) (s s2 : QS) : Prop where
  mkk : s.1 = s2.1
  sel : selL (QK K) s.2 = selL (QK K) s2.2
theorem turn_ok {j : Jb} {K O : ByteArray} (hO : O.size ≤ 64) (e : Ev) : evOk j (turnK K O e) ↔ evOk j e := by
  unfold turnK
  split
  · rename_i h
    unfold evOk evB evK
    dsimp only
    constructor
    · rintro ⟨h1, h2⟩
      exact ⟨h1, .inl ⟨h.1, h.2.2⟩⟩
    · rintro ⟨h1, h2⟩
      exact ⟨h1, .inl ⟨h.1, hO⟩⟩
  · exact Iff.rfl
theorem turn_mk {K O : ByteArray} (m : Mk) (e : Ev) : mkQ m (turnK K O e) = mkQ m e := by
  unfold turnK
  split <;> rfl
theorem turn_k {K O : ByteArray} (e : Ev) : (turnK K O e).k = e.k := by
  unfold turnK
  split <;> rfl
/-- One event, and the turned one. -/
theorem sim_step {j : Jb} {K O : ByteArray} (hKO : O ≠ K) (hO : O.size ≤ 64) {s s2 : QS} (h : SimK K s s2) (e : Ev) (h1 : codeQ j s e ≠ 3) (h2 : codeQ j s2 (turnK K O e) ≠ 3) :
    SimK K (goQ j s e) (goQ j s2 (turnK K O e)) ∧ (tellQ j s e).filter (fun o => QK K o.1) = (tellQ j s2 (turnK K O e)).filter (fun o => QK K o.1) := by
  by_cases hok : evOk j e
  · have hok2 := (turn_ok (K := K) hO e).2 hok
    have hl1 : ¬ longQ j s e := fun hl => h1 (by unfold codeQ; rw [if_neg (fun h => h hok), if_pos hl])
    have hl2 : ¬ longQ j s2 (turnK K O e) := fun hl => h2 (by unfold codeQ; rw [if_neg (fun h => h hok2), if_pos hl])
    have hrec : selL (QK K) (recQ j s e).1 = selL (QK K) (recQ j s2 (turnK K O e)).1 ∧ selL (QK K) (recQ j s e).2 = selL (QK K) (recQ j s2 (turnK K O e)).2 := by
      by_cases he : e.k = 1
      · by_cases hk : e.key = K
        · have ht : turnK K O e = e := by unfold turnK; rw [if_neg fun h => h.2.1 hk]
          rw [ht]
          have r1 := rec_key (j := j) (s := s) he hk
          have r2 := rec_key (j := j) (s := s2) he hk
          rw [← h.mkk, ← h.sel] at r2
          have r := Prod.mk.inj (r1.trans r2.symm)
          exact ⟨r.1, r.2⟩
        · have r1 := rec_other (j := j) (s := s) he hk
          have hk2 : (turnK K O e).key ≠ K := by
            unfold turnK
            split
            · exact hKO
            · exact hk
          have r2 := rec_other (j := j) (s := s2) ((turn_k e).trans he) hk2
          rw [r1.1, r1.2, r2.1, r2.2]
          exact ⟨h.sel, rfl⟩
      · rw [rec_none he, rec_none (fun hh => he ((turn_k e).symm.trans hh))]
        exact ⟨h.sel, rfl⟩
    refine ⟨⟨?_, ?_⟩, ?_⟩
    · unfold goQ
      rw [if_pos ⟨hok, hl1⟩, if_pos ⟨hok2, hl2⟩]
      unfold nxtQ
      dsimp only
      rw [turn_mk, h.mkk]
    · unfold goQ
      rw [if_pos ⟨hok, hl1⟩, if_pos ⟨hok2, hl2⟩]
      unfold nxtQ
      dsimp only
      rw [pass_sel, pass_sel, turn_mk, h.mkk, hrec.1]
    · rw [tell_sel, tell_sel, if_pos ⟨hok, hl1⟩, if_pos ⟨hok2, hl2⟩, turn_mk, h.mkk, hrec.1, hrec.2]
  · have hok2 : ¬ evOk j (turnK K O e) := fun hh => hok ((turn_ok hO e).1 hh)
    refine ⟨?_, ?_⟩
    · unfold goQ
      rw [if_neg (fun h => hok h.1), if_neg (fun h => hok2 h.1)]
      exact h
    · rw [tell_sel, tell_sel, if_neg (fun h => hok h.1), if_neg (fun h => hok2 h.1)]
theorem fold_none {j : Jb} {l : List Ev} {x : Option (QS × List Ot)} {r : QS × List Ot} (h : l.foldl (stepO j) x = some r) : ∃ y, x = some y := by
  cases x with
  | none => rw [run_none] at h; cases h
  | some y => exact ⟨y, rfl⟩
theorem sim_run {j : Jb} {K O : ByteArray} (hKO : O ≠ K) (hO : O.size ≤ 64) : ∀ (l : List Ev) (s s2 : QS) (o o2 : List Ot) (r r2 : QS × List Ot), SimK K s s2 → o.filter (fun o => QK K o.1) = o2.filter (fun o => QK K o.1) →
    l.foldl (stepO j) (some (s, o)) = some r → (l.map (turnK K O)).foldl (stepO j) (some (s2, o2)) = some r2 → r.2.filter (fun o => QK K o.1) = r2.2.filter (fun o => QK K o.1)
  | [], s, s2, o, o2, r, r2, h, ho, h1, h2 => by
    obtain rfl := Option.some.inj h1
    obtain rfl := Option.some.inj h2
    exact ho
  | e :: l, s, s2, o, o2, r, r2, h, ho, h1, h2 => by
    rw [List.foldl_cons] at h1
    rw [List.map_cons, List.foldl_cons] at h2
    obtain ⟨y, hy⟩ := fold_none h1
    obtain ⟨y2, hy2⟩ := fold_none h2
    have c1 : codeQ j s e ≠ 3 := fun hc => by
      have : stepO j (some (s, o)) e = none := by show (if _ then _ else _) = _; rw [if_pos hc]
      rw [this] at hy; cases hy
    have c2 : codeQ j s2 (turnK K O e) ≠ 3 := fun hc => by
      have : stepO j (some (s2, o2)) (turnK K O e) = none := by show (if _ then _ else _) = _; rw [if_pos hc]
      rw [this] at hy2; cases hy2
    have e1 : stepO j (some (s, o)) e = some (goQ j s e, o ++ tellQ j s e) := by show (if _ then _ else _) = _; rw [if_neg c1]
    have e2 : stepO j (some (s2, o2)) (turnK K O e) = some (goQ j s2 (turnK K O e), o2 ++ tellQ j s2 (turnK K O e)) := by show (if _ then _ else _) = _; rw [if_neg c2]
    rw [e1] at h1
    rw [e2] at h2
    obtain ⟨hs, ht⟩ := sim_step hKO hO h e c1 c2
    exact sim_run hKO hO l _ _ _ _ r r2 hs (by rw [List.filter_append, List.filter_append, ho, ht]) h1 h2
/-- A key's outputs do not hang on the other keys. -/
theorem apart_law {j : Jb} {K O : ByteArray} (hKO : O ≠ K) (hO : O.size ≤ 64) {l : List Ev} {o o2 : List Ot} (h1 : allQ j l = some o) (h2 : allQ j (l.map (turnK K O)) = some o2) : o.filter (fun o => QK K o.1) = o2.filter (fun o => QK K o.1) := by
  unfold allQ at h1 h2
  split at h1
  · rename_i hj
    rw [if_pos hj] at h2
    obtain ⟨r, hr, rfl⟩ := Option.map_eq_some_iff.1 h1
    obtain ⟨r2, hr2, rfl⟩ := Option.map_eq_some_iff.1 h2
    exact sim_run hKO hO l _ _ _ _ r r2 ⟨rfl, rfl⟩ rfl hr hr2
  · cases h1
end Go.Proofs.YtfojblbnhapedaaGreatDoor
