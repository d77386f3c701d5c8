/- Rows of changes and of outputs; the first half of model.record. Conditions: as each theorem states them. -/
import Derived.Test.YtfojblbnhapedaaGreatDoorP0
import Derived.Test.YtfojblbnhapedaaGreatDoorG2
namespace Go.Proofs.YtfojblbnhapedaaGreatDoor
open Go.RowKit Go.Maps
set_option linter.unusedVariables false
set_option linter.unusedSimpArgs false

def lookN (L : List Pn) (p : Pl) : Option Pn := L.find? fun y => decide (y.p = p)
def valsN (L : List Pn) (p : Pl) : List Int := match lookN L p with | some y => y.vs | none => []
def strikeN (L : List Pn) (p : Pl) : List Pn := L.filter fun y => decide (y.p ≠ p)
theorem lookN_some {L : List Pn} {p : Pl} {y : Pn} (h : lookN L p = some y) : y ∈ L ∧ y.p = p := by
  have h1 := List.mem_of_find?_eq_some h
  have h2 := List.find?_some h
  exact ⟨h1, by simpa using h2⟩
theorem lookN_none {L : List Pn} {p : Pl} (h : lookN L p = none) : ∀ y ∈ L, y.p ≠ p := by
  intro y hy e
  have := List.find?_eq_none.1 h y hy
  simp [e] at this
theorem strikeN_none {L : List Pn} {p : Pl} (h : ∀ y ∈ L, y.p ≠ p) : strikeN L p = L := by
  unfold strikeN
  rw [List.filter_eq_self]
  intro y hy
  simpa using h y hy
theorem strikeN_mem {L : List Pn} {p : Pl} {y : Pn} : y ∈ strikeN L p ↔ y ∈ L ∧ y.p ≠ p := by
  unfold strikeN
  rw [List.mem_filter]
  simp
theorem strikeN_perm : ∀ {L : List Pn} {p : Pl} {y : Pn}, (L.map (·.p)).Nodup → y ∈ L → y.p = p → L.Perm (y :: strikeN L p)
  | [], p, y, _, h, _ => by cases h
  | x :: L, p, y, hn, h, e => by
    rw [List.map_cons, List.nodup_cons] at hn
    rcases List.mem_cons.1 h with rfl | h
    · have h1 : strikeN (y :: L) p = L := by
        unfold strikeN
        rw [List.filter_cons, if_neg (by simp [e])]
        exact strikeN_none (fun z hz e2 => hn.1 (List.mem_map.2 ⟨z, hz, by rw [e2, e]⟩))
      rw [h1]
    · have hx : x.p ≠ p := fun e2 => hn.1 (List.mem_map.2 ⟨y, h, by rw [e2, e]⟩)
      have h1 : strikeN (x :: L) p = x :: strikeN L p := by
        unfold strikeN
        rw [List.filter_cons, if_pos (by simpa using hx)]
      rw [h1]
      exact ((strikeN_perm hn.2 h e).cons x).trans (List.Perm.swap y x _)
theorem strikeN_nodup {L : List Pn} (p : Pl) (h : (L.map (·.p)).Nodup) : ((strikeN L p).map (·.p)).Nodup :=
  h.sublist ((List.filter_sublist (p := fun y => decide (y.p ≠ p)) (l := L)).map _)
theorem Md.Lp_eq (M : Md) : M.Lp.map (·.1) = M.L.map (·.p) := by
  unfold Md.Lp
  rw [List.map_map]
  rfl
theorem RowAt.kw {w w' : World} {S : Nat → Prop} {r : Rw} {vs : List Int} (h : RowAt w r vs) (k : Kw S w w') (hS : ¬ S r.b) : RowAt w' r vs := by
  obtain ⟨h1, h2⟩ := h
  refine ⟨⟨h1.1, ?_⟩, h2⟩
  rcases h1.2 with ⟨e, _⟩ | ⟨g, c, cur, e, hb, hg, hr⟩
  · cases e
  · refine .inr ⟨g, c, cur, e, hb, (k.block g (Array.getElem?_eq_some_iff.1 hg).1 (fun hs => ?_)).trans hg, hr⟩
    have e2 : r.b = g := by
      have := e
      unfold rwV at this
      injection this with h
      injection h with h
      injection h
    exact hS (e2 ▸ hs)
theorem RowAt.heap {w : World} {r : Rw} {vs : List Int} (h : RowAt w r vs) : ∃ cur, w.heap[r.b]? = some (Obj.cells cur 2) := by
  rcases h.1.2 with ⟨e, _⟩ | ⟨g, c, cur, e, hb, hg, hr⟩
  · cases e
  · have e2 : r.b = g := by
      have := e
      unfold rwV at this
      injection this with h
      injection h with h
      injection h
    exact ⟨cur, e2 ▸ hg⟩
theorem RdP.kw {w w' : World} {S : Nat → Prop} {A : Option Addr} {l : List JOp} (h : RdP w A l) (k : Kw S w w') (hS : ∀ a, A = some a → ¬ S a.block) : RdP w' A l := by
  refine ⟨fun hl => ?_, h.2⟩
  obtain ⟨b, off, e, hb, hc⟩ := h.1 hl
  have hs := hS _ e
  refine ⟨b, off, e, Nat.lt_of_lt_of_le hb k.size, fun i hi => ?_⟩
  obtain ⟨u0, u1, u2, u3, u4⟩ := hc i hi
  exact ⟨(k.cell hb hs).trans u0, (k.cell hb hs).trans u1, (k.cell hb hs).trans u2, (k.cell hb hs).trans u3, (k.cell hb hs).trans u4⟩
theorem MdAt.mapc {w : World} {B : Lo} {M : Md} (h : MdAt w B M) : ∃ es clock, w.heap[B.bo]? = some (.map es clock) := by
  obtain ⟨_, D, ho, _⟩ := h.map
  obtain ⟨es, clock, hm, _⟩ := ho
  exact ⟨es, clock, hm⟩
/-- The model stays where other blocks turn. -/
theorem MdAt.kw {w w' : World} {S : Nat → Prop} {B : Lo} {M : Md} (h : MdAt w B M) (k : Kw S w w') (h1 : ¬ S B.bm) (h2 : ¬ S B.bk) (h3 : ¬ S B.bo) (h4 : ∀ a, M.j.A = some a → ¬ S a.block) (h5 : ∀ x ∈ M.L, ¬ S x.r.b) : MdAt w' B M :=
  ⟨(k.block _ h.lt h1).trans h.md, (k.block _ h.mks.lt h2).trans h.mks, h.map.kw k h3, h.ops.kw k h4, fun x hx => (h.rows x hx).kw k (h5 x hx), fun a ha => ⟨Nat.lt_of_lt_of_le (h.opa a ha).1 k.size, (h.opa a ha).2⟩⟩
/-- The model stays where a row of the call's own turns. -/
theorem MdAt.own {w w' : World} {B : Lo} {M : Md} (h : MdAt w B M) {v : Value} {base e sz n : Nat} {xs : List Value} (ho : w.ownsRow base e sz v n xs) (g : w.grownBy w' v.ownBlock) (he1 : e ≠ 87) (he2 : e ≠ 126) (hA : ∀ a, M.j.A = some a → a.block < base)
    (hr : e ≠ 2 ∨ ∀ x ∈ M.L, v.ownBlock ≠ some x.r.b) : MdAt w' B M := by
  have hty : ∀ b, v.ownBlock = some b → base ≤ b ∧ ∃ cur, w.heap[b]? = some (Obj.cells cur e) := fun b hb => by
    rcases ho.2 with ⟨e0, _⟩ | ⟨g, c, cur, e0, hB, hg, _⟩
    · rw [e0] at hb; cases hb
    · rw [e0] at hb; injection hb with hb; subst hb; exact ⟨hB, cur, hg⟩
  refine h.kw ((Kw.refl (fun b => v.ownBlock = some b) w).grown g (fun k hk => hk)) (fun hb => ?_) (fun hb => ?_) (fun hb => ?_) (fun a ha hb => ?_) (fun x hx hb => ?_)
  · obtain ⟨_, cur, hc⟩ := hty _ hb
    rw [h.md] at hc
    injection hc with hc
    injection hc with _ hc
    exact he1 hc.symm
  · obtain ⟨_, cur, hc⟩ := hty _ hb
    have := h.mks
    unfold MkAt at this
    rw [this] at hc
    injection hc with hc
    injection hc with _ hc
    exact he2 hc.symm
  · obtain ⟨_, cur, hc⟩ := hty _ hb
    obtain ⟨es, clock, hm⟩ := h.mapc
    rw [hm] at hc
    cases hc
  · have := (hty _ hb).1
    have := hA a ha
    omega
  · rcases hr with hr | hr
    · obtain ⟨_, cur, hc⟩ := hty _ hb
      obtain ⟨cur2, h2⟩ := (h.rows x hx).heap
      rw [h2] at hc
      injection hc with hc
      injection hc with _ hc
      exact hr hc.symm
    · exact hr x hx hb
theorem md_look {w : World} {B : Lo} {M : Md} {p : Pl} (h : MdAt w B M) (hp : okPl p) : ∃ u : Value, (∀ W, Below w.heap.size w W → (Instr.lookup 85 (.map (some B.bo)) (plV p) false).run Tryz.prog W = .ok u W) ∧ w.ownsRow 0 2 1 u (valsN M.L p).length (icells (valsN M.L p)) ∧ (u = .slice none 0 0 ∨ ∃ x ∈ M.L, u = rwV x.r) := by
  unfold valsN
  cases hl : lookN M.L p with
  | none => exact ⟨.slice none 0 0, fun W hb => (h.below hb).map.look hp _ (.inr ⟨fun b hb e => by
      obtain ⟨y, hy, rfl⟩ := List.mem_map.1 hb
      exact lookN_none hl y hy e, rfl⟩), ⟨rfl, .inl ⟨rfl, rfl⟩⟩, .inl rfl⟩
  | some y =>
    obtain ⟨hy, e⟩ := lookN_some hl
    obtain ⟨h1, h2, _⟩ := h.rows y hy
    refine ⟨rwV y.r, fun W hb => (h.below hb).map.look hp _ (.inl ⟨(y.p, y.r), List.mem_map.2 ⟨y, hy, rfl⟩, e, rfl⟩), ?_, .inr ⟨y, hy, rfl⟩⟩
    dsimp only
    rw [← h2]
    exact h1
theorem md_del {w : World} {B : Lo} {M : Md} {p : Pl} (h : MdAt w B M) (hnd : (M.L.map (·.p)).Nodup) (hp : okPl p) (ty : TypeId) : ∃ w', (Builtin.delete_ #[85, 105] ty #[.map (some B.bo), plV p]).run Tryz.prog w = .ok (.tuple #[]) w' ∧ MdAt w' B { M with L := strikeN M.L p } ∧ Kw (fun b => b = B.bo) w w' := by
  have hne : ∀ {w'} {L'}, MapAt w' B.bo (L'.map fun x : Pn => (x.p, x.r)) → w.mapTurned w' B.bo → (∀ x ∈ L', x ∈ M.L) → MdAt w' B { M with L := L' } := fun {w'} {L'} hm ht hs => by
    have hk := turned_kw (S := fun b => b = B.bo) ht rfl
    obtain ⟨es, clock, hmc⟩ := h.mapc
    refine ⟨(hk.block _ h.lt (fun e => ?_)).trans h.md, (hk.block _ h.mks.lt (fun e => ?_)).trans h.mks, hm, h.ops.kw hk (fun a ha => (h.opa a ha).2.2.2), fun x hx => (h.rows x (hs x hx)).kw hk (fun e => ?_), fun a ha => ⟨Nat.lt_of_lt_of_le (h.opa a ha).1 hk.size, (h.opa a ha).2⟩⟩
    · have := h.md
      rw [e, hmc] at this
      cases this
    · have := h.mks
      unfold MkAt at this
      rw [e, hmc] at this
      cases this
    · obtain ⟨cur, hc⟩ := (h.rows x (hs x hx)).heap
      rw [e, hmc] at hc
      cases hc
  cases hl : lookN M.L p with
  | none =>
    have hno := lookN_none hl
    obtain ⟨h0, D, ho, h1, h2, h3⟩ := h.map
    have hnk : has D (klP p) = false := h3 p hp (fun b hb e => by
      obtain ⟨y, hy, rfl⟩ := List.mem_map.1 hb
      exact hno y hy e)
    obtain ⟨w', hrun, ho', ht⟩ := ho.drop keyK u85 (key_some hp) ty
    rw [del_of_not_has hnk] at ho'
    refine ⟨w', hrun, ?_, turned_kw ht rfl⟩
    rw [strikeN_none hno]
    exact hne ⟨h0, D, ho', h1, h2, h3⟩ ht (fun x hx => hx)
  | some y =>
    obtain ⟨hy, e⟩ := lookN_some hl
    have hpm := strikeN_perm hnd hy e
    obtain ⟨w', hrun, hm, ht⟩ := h.map.del (y.p, y.r) ((strikeN M.L p).map fun x => (x.p, x.r)) (hpm.map _) (fun c hc e2 => by
      obtain ⟨z, hz, rfl⟩ := List.mem_map.1 hc
      exact (strikeN_mem.1 hz).2 (by rw [← e]; exact e2)) ty
    rw [e] at hrun
    exact ⟨w', hrun, hne hm ht (fun x hx => (strikeN_mem.1 hx).1), turned_kw ht rfl⟩
theorem md_put {w : World} {B : Lo} {M : Md} {p : Pl} {r : Rw} {vs : List Int} (h : MdAt w B M) (hnd : (M.L.map (·.p)).Nodup) (hp : okPl p) (hr : RowAt w r vs) (hL : M.L.length < maxLen) :
    ∃ w', (Instr.mapUpdate 85 (.map (some B.bo)) (plV p) (rwV r)).run Tryz.prog w = .ok () w' ∧ MdAt w' B { M with L := strikeN M.L p ++ [⟨p, r, vs⟩] } ∧ Kw (fun b => b = B.bo) w w' := by
  obtain ⟨h0, D, ho, h1, h2, h3⟩ := h.map
  rw [List.length_map] at ho h1
  obtain ⟨w', hrun, ho', ht⟩ := ho.store keyK u85 hL (key_some hp) (RQ_row r)
  have hD := ho.tidy keyK
  have hk := turned_kw (S := fun b => b = B.bo) ht rfl
  obtain ⟨es, clock, hmc⟩ := h.mapc
  have hmem : ∀ b : Pl × Rw, b ∈ (strikeN M.L p ++ [(⟨p, r, vs⟩ : Pn)]).map (fun x : Pn => (x.p, x.r)) → (b ∈ M.L.map (fun x : Pn => (x.p, x.r)) ∧ b.1 ≠ p) ∨ b = (p, r) := fun b hb => by
    obtain ⟨y, hy, rfl⟩ := List.mem_map.1 hb
    rcases List.mem_append.1 hy with hy | hy
    · exact .inl ⟨List.mem_map.2 ⟨y, (strikeN_mem.1 hy).1, rfl⟩, (strikeN_mem.1 hy).2⟩
    · rw [List.mem_singleton.1 hy]; exact .inr rfl
  have hsz : size (D.put (klP p) (rwD r)) = (strikeN M.L p ++ [(⟨p, r, vs⟩ : Pn)]).length := by
    rw [size_put hD, List.length_append]
    cases hl : lookN M.L p with
    | none =>
      have hno := lookN_none hl
      rw [h3 p hp (fun b hb e => by
        obtain ⟨y, hy, rfl⟩ := List.mem_map.1 hb
        exact hno y hy e), strikeN_none hno, h1]
      simp
    | some y =>
      obtain ⟨hy, e⟩ := lookN_some hl
      have hpm := (strikeN_perm hnd hy e).length_eq
      have := (h2 (y.p, y.r) (List.mem_map.2 ⟨y, hy, rfl⟩)).1
      dsimp only at this
      rw [e] at this
      rw [this, h1]
      simp at hpm ⊢
      omega
  have hmap : MapAt w' B.bo ((strikeN M.L p ++ [(⟨p, r, vs⟩ : Pn)]).map fun x : Pn => (x.p, x.r)) := by
    refine ⟨fun b hb => ?_, D.put (klP p) (rwD r), ?_, ?_, fun b hb => ?_, fun x hx hnx => ?_⟩
    · rcases hmem b hb with ⟨hb, _⟩ | rfl
      · exact h0 b hb
      · exact hp
    · rw [List.length_map, ← hsz]
      exact own_tight ho'
    · rw [List.length_map, hsz]
    · rcases hmem b hb with ⟨hb, hne⟩ | rfl
      · have hne : klP b.1 ≠ klP p := fun e => hne (kl_inj (h0 b hb) hp e)
        rw [has_put_other hne, atKey_put_other hne]
        exact h2 b hb
      · exact ⟨has_put_same hD.isMap (kl_key hp) _, atKey_put_same hD.isMap (kl_key hp) _ _⟩
    · have hxp : x ≠ p := fun e => hnx (p, r) (List.mem_map.2 ⟨(⟨p, r, vs⟩ : Pn), List.mem_append_right _ (List.mem_singleton.2 rfl), rfl⟩) e.symm
      have hne : klP x ≠ klP p := fun e => hxp (kl_inj hx hp e)
      rw [has_put_other hne]
      refine h3 x hx (fun c hc e => ?_)
      obtain ⟨y, hy, rfl⟩ := List.mem_map.1 hc
      exact hnx (y.p, y.r) (List.mem_map.2 ⟨y, List.mem_append_left _ (strikeN_mem.2 ⟨hy, by dsimp only at e; rw [e]; exact hxp⟩), rfl⟩) e
  refine ⟨w', hrun, ⟨(hk.block _ h.lt (fun e => ?_)).trans h.md, (hk.block _ h.mks.lt (fun e => ?_)).trans h.mks, hmap, h.ops.kw hk (fun a ha => (h.opa a ha).2.2.2), fun x hx => ?_, fun a ha => ⟨Nat.lt_of_lt_of_le (h.opa a ha).1 hk.size, (h.opa a ha).2⟩⟩, hk⟩
  · have := h.md
    rw [e, hmc] at this
    cases this
  · have := h.mks
    unfold MkAt at this
    rw [e, hmc] at this
    cases this
  · have hx2 : RowAt w x.r x.vs := by
      rcases List.mem_append.1 hx with hx | hx
      · exact h.rows x (strikeN_mem.1 hx).1
      · rw [List.mem_singleton.1 hx]; exact hr
    refine hx2.kw hk (fun e => ?_)
    obtain ⟨cur, hc⟩ := hx2.heap
    rw [e, hmc] at hc
    cases hc
end Go.Proofs.YtfojblbnhapedaaGreatDoor
namespace Go.Proofs.YtfojblbnhapedaaGreatDoor
open Go.RowKit Go.Maps
set_option linter.unusedVariables false
set_option linter.unusedSimpArgs false

/-- Open windows and their values. -/
abbrev PL := List (Pl × List Int)
def plain (L : List Pn) : PL := L.map fun x => (x.p, x.vs)
def val1 (L : PL) (p : Pl) : List Int := match L.find? (fun y => decide (y.1 = p)) with | some y => y.2 | none => []
def strike1 (L : PL) (p : Pl) : PL := L.filter fun y => decide (y.1 ≠ p)
theorem plain_strike (p : Pl) : ∀ L : List Pn, plain (strikeN L p) = strike1 (plain L) p
  | [] => rfl
  | x :: L => by
    have ih := plain_strike p L
    unfold plain strikeN strike1 at *
    by_cases h : x.p = p <;> simp [h] at ih ⊢ <;> exact ih
theorem plain_vals (p : Pl) : ∀ L : List Pn, valsN L p = val1 (plain L) p
  | [] => rfl
  | x :: L => by
    have ih := plain_vals p L
    unfold valsN lookN val1 plain at *
    by_cases h : x.p = p
    · simp [h]
    · simp only [List.find?_cons, List.map_cons, h, decide_false] at *
      exact ih
theorem plain_app (L : List Pn) (x : Pn) : plain (L ++ [x]) = plain L ++ [(x.p, x.vs)] := by
  unfold plain
  rw [List.map_append]
  rfl
theorem plain_keys (L : List Pn) : (plain L).map (·.1) = L.map (·.p) := by
  unfold plain
  rw [List.map_map]
  rfl
/-- A window goes into another one. -/
def takeC (op : Int) (key : ByteArray) (s : PL × List Int) (w : Int × Int) : PL × List Int := (strike1 s.1 ⟨op, key, w.1, w.2⟩, s.2 ++ val1 s.1 ⟨op, key, w.1, w.2⟩)
def takeF (L : PL) (c : Chg) (n : Nat) : PL × List Int := (c.ws.take n).foldl (takeC c.p.op c.p.key) (L, [])
/-- A change is made: the windows, and the values of the one. -/
def applyC (L : PL) (c : Chg) (x : Int) : PL × List Int := (strike1 (takeF L c c.ws.length).1 c.p ++ [(c.p, (takeF L c c.ws.length).2 ++ [x])], (takeF L c c.ws.length).2 ++ [x])
def recS (was x : Int) (s : PL × PL) (c : Chg) : PL × PL := ((applyC s.1 c x).1, s.2 ++ if c.p.t - 1 ≤ was then [(c.p, (applyC s.1 c x).2)] else [])
def recF (was x : Int) (l : List Chg) (L : PL) : PL × PL := l.foldl (recS was x) (L, [])
theorem takeF_zero (L : PL) (c : Chg) : takeF L c 0 = (L, []) := rfl
theorem takeF_succ (L : PL) (c : Chg) (n : Nat) (h : n < c.ws.length) : takeF L c (n + 1) = takeC c.p.op c.p.key (takeF L c n) c.ws[n] := by
  unfold takeF
  rw [List.take_succ_eq_append_getElem h, List.foldl_append]
  rfl
theorem recF_take (was x : Int) (l : List Chg) (L : PL) (n : Nat) (h : n < l.length) : recF was x (l.take (n + 1)) L = recS was x (recF was x (l.take n) L) l[n] := by
  unfold recF
  rw [List.take_succ_eq_append_getElem h, List.foldl_append]
  rfl
theorem recS_mono (was x : Int) : ∀ (l : List Chg) (s : PL × PL) (o : Pl × List Int), o ∈ s.2 → o ∈ (l.foldl (recS was x) s).2
  | [], s, o, h => h
  | c :: l, s, o, h => recS_mono was x l _ o (List.mem_append_left _ h)
theorem recF_mono (was x : Int) (l : List Chg) (L : PL) (n : Nat) (o : Pl × List Int) (h : o ∈ (recF was x (l.take n) L).2) : o ∈ (recF was x l L).2 := by
  have e : recF was x l L = (l.drop n).foldl (recS was x) (recF was x (l.take n) L) := by
    unfold recF
    rw [← List.foldl_append, List.take_append_drop]
  rw [e]
  exact recS_mono was x _ _ o h
/-- How many values there are. -/
def tot (L : PL) : Nat := (L.map fun y => y.2.length).sum
theorem tot_take : ∀ (L : PL) (p : Pl), (val1 L p).length + tot (strike1 L p) ≤ tot L
  | [], p => by simp [val1, strike1, tot]
  | y :: L, p => by
    have ih := tot_take L p
    unfold val1 strike1 tot at *
    by_cases h : y.1 = p
    · simp [h] at *
      have : (List.map (fun y : Pl × List Int => y.2.length) (List.filter (fun y => !decide (y.1 = p)) L)).sum ≤ (List.map (fun y : Pl × List Int => y.2.length) L).sum := by omega
      omega
    · simp [h] at *
      omega
theorem tot_app (L M : PL) : tot (L ++ M) = tot L + tot M := by
  unfold tot
  rw [List.map_append, List.sum_append]
theorem takeF_tot (L : PL) (c : Chg) : ∀ n, n ≤ c.ws.length → (takeF L c n).2.length + tot (takeF L c n).1 ≤ tot L
  | 0, _ => by rw [takeF_zero]; simp
  | n + 1, h => by
    have ih := takeF_tot L c n (by omega)
    rw [takeF_succ L c n (by omega)]
    unfold takeC
    have := tot_take (takeF L c n).1 ⟨c.p.op, c.p.key, (c.ws[n]).1, (c.ws[n]).2⟩
    simp only [List.length_append]
    omega
theorem applyC_tot (L : PL) (c : Chg) (x : Int) : tot (applyC L c x).1 ≤ tot L + 1 ∧ (applyC L c x).2.length ≤ tot L + 1 := by
  have h := takeF_tot L c c.ws.length (Nat.le_refl _)
  have h2 := tot_take (takeF L c c.ws.length).1 c.p
  unfold applyC
  dsimp only
  rw [tot_app]
  have e : tot [(c.p, (takeF L c c.ws.length).2 ++ [x])] = (takeF L c c.ws.length).2.length + 1 := by simp [tot]
  rw [e]
  simp only [List.length_append, List.length_cons, List.length_nil]
  omega
theorem recF_tot (was x : Int) (l : List Chg) (L : PL) : ∀ n, n ≤ l.length → tot (recF was x (l.take n) L).1 ≤ tot L + n
  | 0, _ => Nat.le_refl _
  | n + 1, h => by
    have ih := recF_tot was x l L n (by omega)
    rw [recF_take was x l L n (by omega)]
    have := (applyC_tot (recF was x (l.take n) L).1 l[n] x).1
    unfold recS
    dsimp only
    omega
theorem strike1_len (L : PL) (p : Pl) : (strike1 L p).length ≤ L.length := List.length_filter_le _ _
theorem takeF_len (L : PL) (c : Chg) : ∀ n, n ≤ c.ws.length → (takeF L c n).1.length ≤ L.length
  | 0, _ => Nat.le_refl _
  | n + 1, h => by
    have ih := takeF_len L c n (by omega)
    rw [takeF_succ L c n (by omega)]
    exact Nat.le_trans (strike1_len _ _) ih
theorem applyC_len (L : PL) (c : Chg) (x : Int) : (applyC L c x).1.length ≤ L.length + 1 := by
  have h := takeF_len L c c.ws.length (Nat.le_refl _)
  have h2 := strike1_len (takeF L c c.ws.length).1 c.p
  unfold applyC
  simp only [List.length_append, List.length_cons, List.length_nil]
  omega
theorem recF_len (was x : Int) (l : List Chg) (L : PL) : ∀ n, n ≤ l.length → (recF was x (l.take n) L).1.length ≤ L.length + n
  | 0, _ => Nat.le_refl _
  | n + 1, h => by
    have ih := recF_len was x l L n (by omega)
    rw [recF_take was x l L n (by omega)]
    have := applyC_len (recF was x (l.take n) L).1 l[n] x
    unfold recS
    dsimp only
    omega
theorem recF_outs (was x : Int) (l : List Chg) (L : PL) : ∀ n, n ≤ l.length → (recF was x (l.take n) L).2.length ≤ n
  | 0, _ => Nat.le_refl _
  | n + 1, h => by
    have ih := recF_outs was x l L n (by omega)
    rw [recF_take was x l L n (by omega)]
    unfold recS
    simp only [List.length_append]
    split <;> simp <;> omega
/-- No place twice. -/
def ND (L : PL) : Prop := (L.map (·.1)).Nodup
theorem nd_strike {L : PL} (p : Pl) (h : ND L) : ND (strike1 L p) := h.sublist ((List.filter_sublist (p := fun y : Pl × List Int => decide (y.1 ≠ p)) (l := L)).map _)
theorem nd_put {L : PL} (p : Pl) (v : List Int) (h : ND L) : ND (strike1 L p ++ [(p, v)]) := by
  unfold ND
  rw [List.map_append, List.nodup_append]
  refine ⟨nd_strike p h, by simp, fun a ha b hb e => ?_⟩
  obtain ⟨y, hy, rfl⟩ := List.mem_map.1 ha
  have h2 := (List.mem_filter.1 hy).2
  simp only [List.map_cons, List.map_nil, List.mem_singleton] at hb
  subst hb
  simp at h2
  exact h2 e
theorem nd_take {L : PL} (c : Chg) (h : ND L) : ∀ n, n ≤ c.ws.length → ND (takeF L c n).1
  | 0, _ => h
  | n + 1, hn => by
    rw [takeF_succ L c n (by omega)]
    exact nd_strike _ (nd_take c h n (by omega))
theorem nd_apply {L : PL} (c : Chg) (x : Int) (h : ND L) : ND (applyC L c x).1 := nd_put _ _ (nd_take c h _ (Nat.le_refl _))
theorem nd_rec {L : PL} (was x : Int) (l : List Chg) (h : ND L) : ∀ n, n ≤ l.length → ND (recF was x (l.take n) L).1
  | 0, _ => h
  | n + 1, hn => by
    rw [recF_take was x l L n (by omega)]
    exact nd_apply _ x (nd_rec was x l h n (by omega))
/-- What a record makes of the number of windows. -/
def cntC (l : List Chg) : Int := (l.map fun c => 1 - (c.ws.length : Int)).sum
theorem cntC_take (l : List Chg) (n : Nat) (h : n < l.length) : cntC (l.take (n + 1)) = cntC (l.take n) + (1 - ((l[n]).ws.length : Int)) := by
  unfold cntC
  rw [List.take_succ_eq_append_getElem h, List.map_append, List.sum_append]
  simp
theorem cntC_bd (l : List Chg) (hw : ∀ c ∈ l, c.ws.length ≤ 2000) : ∀ n, n ≤ l.length → -2000 * (n : Int) ≤ cntC (l.take n) ∧ cntC (l.take n) ≤ n
  | 0, _ => by simp [cntC]
  | n + 1, h => by
    have ih := cntC_bd l hw n (by omega)
    have h2 := hw l[n] (List.getElem_mem _)
    rw [cntC_take l n (by omega)]
    push_cast
    omega
end Go.Proofs.YtfojblbnhapedaaGreatDoor
namespace Go.Proofs.YtfojblbnhapedaaGreatDoor
open Go.RowKit Go.Maps
set_option linter.unusedVariables false
set_option linter.unusedSimpArgs false

/-- A row, read: nil, or a block. -/
theorem own_read {w : World} {B e sz n : Nat} {v : Value} {xs : List Value} (h : w.ownsRow B e sz v n xs) (hsz : 0 < sz) : ∃ A c, v = .slice A n c ∧ n ≤ c ∧ c ≤ maxLen ∧ (0 < n → ∃ g, A = some ⟨g, 0, none⟩ ∧ B ≤ g ∧ g < w.heap.size ∧ (∃ cur, w.heap[g]? = some (Obj.cells cur e)) ∧ ∀ (j : Nat) u, xs[j]? = some u → w.cell? ⟨g, j, none⟩ = some u) := by
  rcases h.2 with ⟨h0, h1⟩ | ⟨g, c, cur, h0, hB, hg, hr⟩
  · have hn : n = 0 := by
      have h2 := h.1
      rw [h1] at h2
      rcases Nat.eq_zero_or_pos n with h | h
      · exact h
      · have := Nat.mul_pos h hsz
        simp at h2
        omega
    subst hn
    exact ⟨none, 0, h0, Nat.le_refl _, Nat.zero_le _, fun h => absurd h (by simp)⟩
  · refine ⟨some ⟨g, 0, none⟩, c, h0, hr.1, hr.2.1, fun hl => ⟨g, rfl, hB, (Array.getElem?_eq_some_iff.1 hg).1, ⟨cur, hg⟩, fun j u hu => ?_⟩⟩
    rw [← hr.2.2.2] at hu
    have hj := (List.getElem?_eq_some_iff.1 hu).1
    rw [List.length_take] at hj
    rw [List.getElem?_take_of_lt (by omega), Array.getElem?_toList] at hu
    exact (cell_of hg j).trans hu
theorem ChsAt.at_ {w : World} : ∀ (l : List Chg) (xs : List Value), ChsAt w xs l → ∀ k (hk : k < l.length), ∃ e, xs[k * 5]? = some (.int .i64 (l[k]).p.op) ∧ xs[k * 5 + 1]? = some (.string (l[k]).p.key) ∧ xs[k * 5 + 2]? = some (.int .i64 (l[k]).p.f) ∧ xs[k * 5 + 3]? = some (.int .i64 (l[k]).p.t) ∧ xs[k * 5 + 4]? = some e ∧ WinsAt w e (l[k]).ws
  | [], _, _, k, hk => absurd hk (Nat.not_lt_zero _)
  | g :: l, xs, h, k, hk => by
    rcases xs with _ | ⟨a, _ | ⟨b, _ | ⟨c, _ | ⟨d, _ | ⟨e, xs⟩⟩⟩⟩⟩
    · exact absurd h (by simp [ChsAt])
    · exact absurd h (by simp [ChsAt])
    · exact absurd h (by simp [ChsAt])
    · exact absurd h (by simp [ChsAt])
    · exact absurd h (by simp [ChsAt])
    · obtain ⟨rfl, rfl, rfl, rfl, h5, h6⟩ := h
      cases k with
      | zero => exact ⟨e, rfl, rfl, rfl, rfl, rfl, h5⟩
      | succ k =>
        obtain ⟨e', h0⟩ := ChsAt.at_ l xs h6 k (by simpa using hk)
        refine ⟨e', ?_⟩
        have e1 : (k + 1) * 5 = k * 5 + 1 + 1 + 1 + 1 + 1 := by omega
        simp only [e1, List.getElem?_cons_succ, List.getElem_cons_succ]
        simpa using h0
/-- What is told: a place, its values, whether again. -/
def outcells (F : Int → List Int → ByteArray) (ag : Pl → Int) (again : Bool) (l : PL) : List Value := l.flatMap fun o => [.int .i64 o.1.op, .string o.1.key, .int .i64 o.1.f, .int .i64 o.1.t, .string (F (ag o.1) o.2), .bool again]
theorem outcells_app (F : Int → List Int → ByteArray) (ag : Pl → Int) (again : Bool) (l : PL) (o : Pl × List Int) : outcells F ag again (l ++ [o]) = outcells F ag again l ++ [.int .i64 o.1.op, .string o.1.key, .int .i64 o.1.f, .int .i64 o.1.t, .string (F (ag o.1) o.2), .bool again] := by
  unfold outcells
  rw [List.flatMap_append]
  simp
theorem outcells_len (F : Int → List Int → ByteArray) (ag : Pl → Int) (again : Bool) : ∀ l : PL, (outcells F ag again l).length = l.length * 6
  | [] => rfl
  | o :: l => by
    have := outcells_len F ag again l
    unfold outcells at *
    simp at *
    omega
def Md.aggAt (M : Md) (p : Pl) : Int := (M.j.ops.getD p.op.toNat zeroP).agg
/-- The model's own blocks. -/
def S3 (B : Lo) (b : Nat) : Prop := b = B.bm ∨ b = B.bk ∨ b = B.bo
/-- The text of values: what told answers, wherever the values lie. -/
def ToldOk (w : World) (B : Lo) (F : Int → List Int → ByteArray) (ok : Int → List Int → Prop) : Prop := ∀ (W : World) (g : Int) (r : Rw) (vs : List Int), Kw (S3 B) w W → RowAt W r vs → ok g vs → Calls Tryz.prog 75 #[.int .i64 g, rwV r] W fun e w' => e = .returned (.string (F g vs)) ∧ Below W.heap.size W w'
/-- A change that may be. -/
structure GoodC (M : Md) (c : Chg) : Prop where
  pl : okPl c.p
  ws : ∀ w ∈ c.ws, okPl ⟨c.p.op, c.p.key, w.1, w.2⟩
  t : -1000000000000000000 ≤ c.p.t ∧ c.p.t ≤ 1000000000000000000
  op : ∃ i : Nat, i < M.j.ops.length ∧ c.p.op = i
  len : c.ws.length ≤ 2000
theorem Kw.grownNew {S : Nat → Prop} {a w w' : World} {row : Option Nat} (h : Kw S a w) (g : w.grownBy w' row) (hr : ∀ k, row = some k → a.heap.size ≤ k) : Kw S a w' :=
  ⟨g.os.trans h.os, g.tape.trans h.tape, g.output.trans h.output, Nat.le_trans h.size g.size, fun i hi hs => (g.block i (Nat.lt_of_lt_of_le hi h.size) (fun e => by have := hr i e.symm; omega)).trans (h.block i hi hs)⟩
theorem ChsAt.kwBo {w w' : World} {bo : Nat} {l : List Chg} {xs : List Value} (h : ChsAt w xs l) (hm : ∃ es clock, w.heap[bo]? = some (.map es clock)) (k : Kw (fun b => b = bo) w w') : ChsAt w' xs l :=
  ChsAt.kw k (fun g cur hg e => by
    obtain ⟨es, clock, hm⟩ := hm
    subst e
    rw [hm] at hg
    cases hg) l xs h
theorem Kw.trans3 {S : Nat → Prop} {a b c : World} (h : Kw S a b) (k : Below b.heap.size b c) : Kw S a c := h.trans (Kw.ofBelow k)
/-- A row of values, as a row that may be put. -/
theorem own_row {w : World} {base n : Nat} {v : Value} {vs : List Int} (h : w.ownsRow base 2 1 v n (icells vs)) (hn : 0 < n) : ∃ r : Rw, v = rwV r ∧ RowAt w r vs ∧ base ≤ r.b ∧ v.ownBlock = some r.b := by
  have hl : (icells vs).length = n * 1 := h.1
  have hl2 : vs.length = n := by unfold icells at hl; rw [List.length_map] at hl; omega
  rcases h.2 with ⟨h0, h1⟩ | ⟨g, c, cur, h0, hB, hg, hr⟩
  · rw [h1] at hl
    simp at hl
    omega
  · refine ⟨⟨g, n, c⟩, h0, ⟨?_, hl2.symm, hn⟩, hB, by rw [h0]; rfl⟩
    exact ⟨h.1, .inr ⟨g, c, cur, rfl, Nat.zero_le _, hg, hr⟩⟩
theorem icells_one (vs : List Int) : ∀ u ∈ icells vs, u.oneCell' = true := by
  intro u hu
  obtain ⟨x, _, rfl⟩ := List.mem_map.1 hu
  rfl
theorem icells_len (vs : List Int) : (icells vs).length = vs.length := by unfold icells; simp
theorem icells_app (a b : List Int) : icells (a ++ b) = icells a ++ icells b := by unfold icells; simp
section
variable (w : World) {ops : Array Oper} {rest : List Oper} {o : Oper} {a : Act} {Q : Exit → Act → World → Prop}
/-- 'delete', by its run. -/
theorem wpList_delete_run (hg : o.guard = none) (m x : Operand) (hop : o.op = Op.call { callee := .builtin .delete, args := #[m, x], argTypes := #[85, 105] }) (mv kv : Value) (hm : a.eval m = mv) (hx : a.eval x = kv) (w' : World)
    (hrun : (Builtin.delete_ #[85, 105] o.type #[mv, kv]).run Tryz.prog w = .ok (.tuple #[]) w') (hK : wpList Tryz.prog ops Q rest (a.put o.dst (.tuple #[])) w') : wpList Tryz.prog ops Q (o :: rest) a w := by
  refine wpList_plain hg fun K' hK' => ?_
  unfold Oper.wp
  simp [execOp, hop, resolve, invoke, builtin, hm, hx, hrun, Result.andThen]
  exact hK' _ _ hK
/-- A store into the map, by its run. -/
theorem wpList_put_run (hg : o.guard = none) (m x y : Operand) (hop : o.op = Op.mapUpdate 85 m x y) (mv kv ev : Value) (hm : a.eval m = mv) (hx : a.eval x = kv) (hy : a.eval y = ev) (w' : World)
    (hrun : (Instr.mapUpdate 85 mv kv ev).run Tryz.prog w = .ok () w') (hK : ∀ v, wpList Tryz.prog ops Q rest (a.put o.dst v) w') : wpList Tryz.prog ops Q (o :: rest) a w := by
  refine wpList_plain hg fun K' hK' => ?_
  unfold Oper.wp
  simp [execOp, hop, hm, hx, hy, hrun, Result.andThen]
  exact hK' _ _ (hK _)
end
/-- A model, an event, a change, as their blocks say. -/
structure R4 (w : World) (B : Lo) (M : Md) (a X : Nat) (ev ch : Array Value) : Prop where
  md : w.heap[B.bm]? = some (Obj.cells (mdcells B M) 87)
  ev : w.heap[a]? = some (Obj.cells ev 26)
  ch : w.heap[X]? = some (Obj.cells ch 134)
theorem R4.kw {w w' : World} {S : Nat → Prop} {B : Lo} {M : Md} {a X : Nat} {ev ch : Array Value} (h : R4 w B M a X ev ch) (k : Kw S w w') (hS : ∀ b cs t, S b → w.heap[b]? = some (Obj.cells cs t) → t = 2) : R4 w' B M a X ev ch := by
  obtain ⟨h1, h2, h3⟩ := h
  refine ⟨(k.block _ (Array.getElem?_eq_some_iff.1 h1).1 (fun hs => ?_)).trans h1, (k.block _ (Array.getElem?_eq_some_iff.1 h2).1 (fun hs => ?_)).trans h2, (k.block _ (Array.getElem?_eq_some_iff.1 h3).1 (fun hs => ?_)).trans h3⟩
  · exact absurd (hS _ _ _ hs h1) (by decide)
  · exact absurd (hS _ _ _ hs h2) (by decide)
  · exact absurd (hS _ _ _ hs h3) (by decide)
theorem R4.below {w w' : World} {B : Lo} {M : Md} {a X : Nat} {ev ch : Array Value} (h : R4 w B M a X ev ch) (k : Below w.heap.size w w') : R4 w' B M a X ev ch := h.kw (S := fun _ => False) (Kw.ofBelow k) (fun _ _ _ h => absurd h (fun h => h))
theorem R4.all {w : World} {B : Lo} {M : Md} {a X : Nat} {k src t v po pf pt : Int} {key pk : ByteArray} {vf : Value} (h : R4 w B M a X #[.int .i64 k, .int .i64 src, .int .i64 t, .string key, .int .i64 v] #[.int .i64 po, .string pk, .int .i64 pf, .int .i64 pt, vf]) :
    w.cell? ⟨B.bm, 6, none⟩ = some (.map (some B.bo)) ∧ w.cell? ⟨a, 4, none⟩ = some (.int .i64 v) ∧ w.cell? ⟨X, 0, none⟩ = some (.int .i64 po) ∧ w.cell? ⟨X, 1, none⟩ = some (.string pk) ∧ w.cell? ⟨X, 2, none⟩ = some (.int .i64 pf) ∧ w.cell? ⟨X, 3, none⟩ = some (.int .i64 pt) :=
  ⟨cell_of h.md 6, cell_of h.ev 4, cell_of h.ch 0, cell_of h.ch 1, cell_of h.ch 2, cell_of h.ch 3⟩
/-- The values of a change are put: behind the append. -/
theorem put_facts {w8 w9 : World} {B : Lo} {M : Md} {a X base n : Nat} {ev ch : Array Value} {u v' : Value} {vs vs' : List Int} {p : Pl} (h4 : R4 w8 B M a X ev ch) (hm : MdAt w8 B M) (hnd : (M.L.map (·.p)).Nodup) (hp : okPl p) (hL : M.L.length < maxLen)
    (hA : ∀ b, M.j.A = some b → b.block < base) (hr : ∀ x ∈ M.L, x.r.b < base) (ho : w8.ownsRow base 2 1 u n (icells vs)) (hg : w8.grownBy w9 u.ownBlock) (ho9 : w9.ownsRow base 2 1 v' (vs'.length) (icells vs')) (hpos : 0 < vs'.length) :
    ∃ (r : Rw) (w10 : World), v' = .slice (some ⟨r.b, 0, none⟩) r.n r.c ∧ (Instr.mapUpdate 85 (.map (some B.bo)) (.agg #[.int .i64 p.op, .string p.key, .int .i64 p.f, .int .i64 p.t]) (.slice (some ⟨r.b, 0, none⟩) r.n r.c)).run Tryz.prog w9 = .ok () w10 ∧ MdAt w10 B { M with L := strikeN M.L p ++ [⟨p, r, vs'⟩] } ∧ R4 w9 B M a X ev ch ∧ R4 w10 B M a X ev ch ∧ Kw (fun b => b = B.bo) w9 w10 := by
  have hty : ∀ b, u.ownBlock = some b → base ≤ b ∧ ∃ cur, w8.heap[b]? = some (Obj.cells cur 2) := fun b hb => by
    rcases ho.2 with ⟨e0, _⟩ | ⟨g, c, cur, e0, hB, hg, _⟩
    · rw [e0] at hb; cases hb
    · rw [e0] at hb; injection hb with hb; subst hb; exact ⟨hB, cur, hg⟩
  have hm9 := hm.own ho hg (by decide) (by decide) hA (.inr (fun x hx e => by have := (hty _ e).1; have := hr x hx; omega))
  have h49 : R4 w9 B M a X ev ch := h4.kw ((Kw.refl (fun b => u.ownBlock = some b) w8).grown hg (fun k hk => hk)) (fun b cs t hs hc => by
    obtain ⟨_, cur, h⟩ := hty b hs
    rw [h] at hc
    injection hc with hc
    injection hc with _ hc
    exact hc.symm)
  obtain ⟨r, hv, hrow, _, _⟩ := own_row ho9 hpos
  obtain ⟨w10, hrun, hm10, hk⟩ := md_put hm9 hnd hp hrow hL
  refine ⟨r, w10, hv, hrun, hm10, h49, h49.kw hk (fun b cs t hs hc => ?_), hk⟩
  obtain ⟨es, clock, hmm⟩ := hm9.mapc
  rw [hs, hmm] at hc
  cases hc
theorem own_kwB {w w' : World} {S : Nat → Prop} {B e size n : Nat} {v : Value} {xs : List Value} (h : w.ownsRow B e size v n xs) (k : Kw S w w') (hS : ∀ g cur, w.heap[g]? = some (Obj.cells cur e) → ¬ S g) : w'.ownsRow B e size v n xs := by
  refine ⟨h.1, ?_⟩
  rcases h.2 with h0 | ⟨g, c, cur, e1, hb, hg, hr⟩
  · exact .inl h0
  · exact .inr ⟨g, c, cur, e1, hb, (k.block g (Array.getElem?_eq_some_iff.1 hg).1 (hS g cur hg)).trans hg, hr⟩
/-- No row is the map. -/
theorem not_map {w : World} {bo : Nat} (hm : ∃ es clock, w.heap[bo]? = some (.map es clock)) {e : TypeId} : ∀ g cur, w.heap[g]? = some (Obj.cells cur e) → ¬ g = bo := fun g cur hg e => by
  obtain ⟨es, clock, hm⟩ := hm
  rw [e, hm] at hg
  cases hg
end Go.Proofs.YtfojblbnhapedaaGreatDoor
