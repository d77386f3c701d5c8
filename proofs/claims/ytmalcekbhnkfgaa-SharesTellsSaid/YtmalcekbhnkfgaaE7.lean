/- Contract of ref.Copy. Conditions: as each theorem states them. -/
import Derived.Test.YtmalcekbhnkfgaaE4
namespace Go.Proofs.Ytmalcekbhnkfgaa
open Go.RowKit Go.Maps Go.Shelf
set_option linter.unusedVariables false
set_option linter.unusedSimpArgs false

theorem own_ne {w : World} {B B' n m s s' : Nat} {e e' : TypeId} {v v' : Value} {xs ys : List Value} (h : w.ownsRow B e s v n xs) (k : w.ownsRow B' e' s' v' m ys) (he : e ≠ e') : ∀ g, v.ownBlock = some g → v'.ownBlock ≠ some g := by
  intro g hg hg'
  rcases h.2 with ⟨rfl, _⟩ | ⟨g1, c1, cur1, rfl, _, h1, _⟩
  · cases hg
  · rcases k.2 with ⟨rfl, _⟩ | ⟨g2, c2, cur2, rfl, _, h2, _⟩
    · cases hg'
    · cases hg
      cases hg'
      rw [h1] at h2
      simp only [Option.some.injEq, Obj.cells.injEq] at h2
      exact he h2.2.1
theorem own_rs {w : World} {B m c : Nat} {A : Option Addr} {fs : List Sh} (h : w.ownsRow B 36 4 (.slice A m c) m (scells fs)) (hm : fs.length = m) : RdS w w.heap.size A fs ∧ m ≤ c := by
  rcases own_form h with ⟨e, h0⟩ | ⟨g', c', e, hc, hB, hg⟩
  · simp only [Value.slice.injEq] at e
    exact ⟨fun hl => by omega, by omega⟩
  · simp only [Value.slice.injEq] at e
    obtain ⟨e1, _, e2⟩ := e
    refine ⟨fun hl => ⟨g', 0, e1, hg, Nat.le_refl _, fun i hi => ?_⟩, by rw [e2]; exact hc⟩
    rw [e1] at h
    obtain ⟨d0, d1, d2, d3⟩ := scells_get fs i hi
    rw [Nat.zero_add]
    exact ⟨(own_cell h _ _ d0).1, (own_cell h _ _ d1).1, (own_cell h _ _ d2).1, (own_cell h _ _ d3).1⟩
theorem own_slice {w : World} {B n sz : Nat} {e : TypeId} {v : Value} {xs : List Value} (h : w.ownsRow B e sz v n xs) : ∃ A c, v = .slice A n c := by
  rcases own_form h with ⟨rfl, h0⟩ | ⟨g, c, rfl, _⟩
  · exact ⟨none, 0, by rw [h0]⟩
  · exact ⟨_, c, rfl⟩
theorem step_append_s {ops : Array Oper} {o : Oper} {a : Act} {K : Act → World → Prop} {Q : Exit → Act → World → Prop} {E : Prop} (w : World) (hgd : o.guard = none) (s x : Operand)
    (ho : o.op = .call { callee := .builtin .append, args := #[s, x], argTypes := #[24, 24] }) (base n : Nat) (v : Value) (xs : List Sh) (hs : a.eval s = v) (hown : w.ownsRow base 36 4 v n (scells xs))
    (A : Option Addr) (m c B : Nat) (l : List Sh) (hm : l.length = m) (hx : a.eval x = .slice A m c) (hr : RdS w B A l) (hnone : A = none → c = 0 ∧ m = 0) (hn : n + m ≤ 1000001) (hbase : base ≤ w.heap.size)
    (h : ∀ v' w', w'.ownsRow base 36 4 v' (n + m) (scells (xs ++ l)) → w.grownBy w' v.ownBlock → K (a.put o.dst v') w') :
    if Region.wanted o (yielded ops a.tmps) = true then Oper.wp Try.prog o a w K Q else E := by
  have hw : Region.wanted o (yielded ops a.tmps) = true := by simp [Region.wanted, hgd]
  rw [if_pos hw]
  obtain ⟨i0, hi, hz0, hz1, hz2⟩ := info_parts i36
  subst hm
  by_cases hl : l = [] ∧ A = none
  · obtain ⟨rfl, rfl⟩ := hl
    obtain ⟨rfl, _⟩ := hnone rfl
    have hrun := run_append_owned_none (P := Try.prog) (w := w) base 24 o.type 36 i0 4 und24' hi v n (scells xs) hown
    unfold Oper.wp
    simp [execOp, ho, resolve, invoke, builtin, hs, hx, hrun, Result.andThen]
    exact h v w (by simpa using hown) ⟨rfl, rfl, rfl, Nat.le_refl _, fun _ _ _ => rfl⟩
  · obtain ⟨ad, rfl⟩ : ∃ ad, A = some ad := by
      cases A with
      | some ad => exact ⟨ad, rfl⟩
      | none =>
        exfalso
        have := (hnone rfl).2
        exact hl ⟨List.length_eq_zero_iff.1 this, rfl⟩
    have hnews : ∀ j u, (scells l)[j]? = some u → w.cell? (ad.add j) = some u := by
      intro j u hu
      have hj : j < (scells l).length := (List.getElem?_eq_some_iff.1 hu).1
      rw [scells_length] at hj
      obtain ⟨b, off, e, _⟩ := hr (by omega)
      cases e
      exact rdS_cells hr j u hu
    exact wp_append_own w s x 24 ho base 36 i0 (.agg #[.int .u64 0, .int .i64 0, .int .u32 0, .int .u64 0]) 4 32 und24' hi hz0 hz1 hz2 rfl (by decide) v n (scells xs) hs hown ad l.length c (scells l) hx (scells_length l) hnews (scells_one l) (by unfold maxLen; omega) (by omega) hbase (fun v' w' h1 h2 _ => h v' w' (by rw [scells_append]; exact h1) h2)
/-- No nil slice of files has room. -/
def okA (l : List Pt) : Prop := ∀ p ∈ l, p.A = none → p.c = 0
/-- What Copy answers. -/
def CopyR (w : World) (l : List Pt) (n : Nat) (e : Ending) (w' : World) : Prop :=
  ∃ g c' L, e = .returned (.slice (some ⟨g, 0, none⟩) n c') ∧ n + 1 ≤ c' ∧ sameP L l ∧ w.heap.size ≤ g ∧ g < w'.heap.size ∧ RdP w' w'.heap.size (some ⟨g, 0, none⟩) L ∧ w'.cell? ⟨g, n * 2, none⟩ = some (.int .u64 77) ∧ Below w.heap.size w w'
set_option maxRecDepth 100000 in
set_option maxHeartbeats 4000000 in
theorem copy_len (A : Option Addr) (n c : Nat) (l : List Pt) (w : World) (hl : l.length = n) (hA : RdP w w.heap.size A l) (hn : n ≤ 100000) (hf : ∀ p ∈ l, p.fs.length ≤ 100000) (ho : okA l) :
    Calls Try.prog 12 #[.slice A n c] w (CopyR w l n) := by
  have HA := Lib.hid hA
  have HLN := Lib.hid hl
  have HF := Lib.hid hf
  have HO := Lib.hid ho
  clear hA hl hf ho
  go_enter Try.func12, Try.ntmps12
  go_wp2_with (fail)
  go_loopw [3, 4] (fun vo vi wr => ∃ (i : Nat) (L : List Pt), i ≤ n ∧ vi = .int .i64 i ∧ L.length = i ∧ wr.ownsRow w.heap.size 26 2 vo i (pcells L) ∧ (∀ j, j < i → (L.getD j zeroP).id = (l.getD j zeroP).id ∧ (L.getD j zeroP).fs = (l.getD j zeroP).fs) ∧
    (∀ p ∈ L, wr.ownsRow w.heap.size 36 4 (.slice p.A p.fs.length p.c) p.fs.length (scells p.fs)) ∧ Below w.heap.size w wr) (fun _ i _ => n - (intOf i).toNat)
  case atStart => exact ⟨0, [], Nat.zero_le _, rfl, rfl, own_none _ _ _ _, fun j hj => by omega, by simp, Below.refl _ _⟩
  case round =>
    obtain ⟨i, L, hin, rfl, hLi, hown, hid, hfi, hbl⟩ := hrel
    have HLI := Lib.hid hLi
    have HOW := Lib.hid hown
    have HID := Lib.hid hid
    have HFI := Lib.hid hfi
    have HBL := Lib.hid hbl
    have hws := hbl.size
    clear hLi hown hid hfi hbl
    by_cases hi : i < n
    · have hi0 : (0 : Int) ≤ (i : Int) := by omega
      have hi1 : (i : Int) < (n : Int) := by omega
      obtain ⟨b, off, rfl, hb, _, hc⟩ := HA.out.1 (by rw [HLN.out]; omega)
      obtain ⟨a0, a1⟩ := hc i (by rw [HLN.out]; exact hi)
      have hpm : l.getD i zeroP ∈ l := getP_mem (by rw [HLN.out]; exact hi)
      have hps := (HA.out.2 _ hpm).1
      have hpf := HF.out _ hpm
      have hpo := HO.out _ hpm
      obtain ⟨p, hp⟩ : ∃ p, l.getD i zeroP = p := ⟨_, rfl⟩
      rw [hp] at a0 a1 hps hpf hpo
      have HP := Lib.hid hp
      have A0W := Lib.hid a0
      have A1W := Lib.hid a1
      have a0 := (HBL.out.cell (p := ⟨b, off + i * 2, none⟩) hb).trans a0
      have a1 := (HBL.out.cell (p := ⟨b, off + i * 2 + 1, none⟩) hb).trans a1
      have hbw : b < wr.heap.size := by omega
      obtain ⟨pid, pfs, PA, pc⟩ := p
      dsimp only at *
      have HPS := Lib.hid (hps.below HBL.out)
      have hpn : PA = none → pc = 0 ∧ pfs.length = 0 := fun h => ⟨hpo h, by
        rcases Nat.eq_zero_or_pos pfs.length with h0 | h0
        · exact h0
        · obtain ⟨_, _, e, _⟩ := hps h0
          rw [h] at e
          cases e⟩
      have HPN := Lib.hid hpn
      obtain ⟨m, hm⟩ : ∃ m, pfs.length = m := ⟨_, rfl⟩
      rw [hm] at a1 hpf HPN A1W
      have HM := Lib.hid hm
      have C2 : ∀ z, Below wr.heap.size wr z → z.cell? ⟨b, off + i * 2, none⟩ = some (.int .u64 pid) ∧ z.cell? ⟨b, off + i * 2 + 1, none⟩ = some (.slice PA m pc) := fun z hz => ⟨(hz.cell hbw).trans a0, (hz.cell hbw).trans a1⟩
      have HBP : Hid (Below wr.heap.size wr (wr.alloc (Obj.cells #[] 36)).drew) := Lib.hid ((Below.refl wr.heap.size wr).alloc (Nat.le_refl _) _).drew
      have HO0 : Hid ((wr.alloc (Obj.cells #[] 36)).drew.ownsRow wr.heap.size 36 4 (.slice (some ⟨wr.heap.size, 0, none⟩) 0 0) 0 (scells [])) := Lib.hid (World.ownsRow_made (base := wr.heap.size) (e := 36) (size := 4) wr #[] 0 (Nat.le_refl _) (by decide) rfl).drew
      have hm0 : 0 + m ≤ 1000001 := by omega
      have hn0 : i + 1 ≤ 1000001 := by omega
      clear hc hpm hp hps hpo hpn hm
      go_wp2_with (fail)
      go_region_held3 (fun z => z.cell? ⟨b, off + i * 2, none⟩ = some (.int .u64 pid) ∧ z.cell? ⟨b, off + i * 2 + 1, none⟩ = some (.slice PA m pc)) (first | exact ⟨a0, a1⟩ | exact C2 _ HBP.out | exact ⟨(HB5.out.cell (p := ⟨b, off + i * 2, none⟩) hb).trans A0W.out, (HB5.out.cell (p := ⟨b, off + i * 2 + 1, none⟩) hb).trans A1W.out⟩ | exact C2 _ HB4.out | exact C2 _ HB3.out | exact C2 _ (Below.refl _ _).drew)
        (first
        | (refine step_append_s _ rfl _ _ rfl wr.heap.size 0 _ [] rfl HO0.out PA m pc w.heap.size pfs HM.out rfl (HPS.out.below (HBP.out.mono hws)) HPN.out hm0 HBP.out.size ?_; intro v3 w3 hown3 hg3; obtain ⟨A3, c3, rfl⟩ := own_slice hown3; rw [Nat.zero_add, List.nil_append] at hown3; rw [Nat.zero_add]; have HO3 := Lib.hid hown3; have HB3 : Hid (Below wr.heap.size wr w3) := Lib.hid (HBP.out.grown hg3 HBP.out.size (fun g hg => by cases hg; exact Nat.le_refl _)); have HOW3 := Lib.hid (own_new HOW.out HB3.out); have HB4 : Hid (Below wr.heap.size wr (w3.alloc (Obj.cells #[.int .u64 pid, .slice A3 m c3] 26))) := Lib.hid (HB3.out.alloc HB3.out.size _); have HOW4 := Lib.hid (own_new HOW.out HB4.out); clear hown3 hg3)
        | (refine step_append_p _ rfl _ _ rfl w.heap.size i _ L rfl HOW4.out ⟨w3.heap.size, 0, none⟩ 1 ⟨pid, pfs, A3, c3⟩ rfl (by dsimp only; rw [HM.out]; exact two_new _ _ _ _) hn0 (Nat.le_trans hws HB4.out.size) ?_; intro v5 w5 hown5 hg5; have HO5 := Lib.hid hown5; have HB5 : Hid (Below w.heap.size w w5) := Lib.hid ((HBL.out.trans (HB4.out.mono hws)).grown hg5 (Nat.le_trans hws HB4.out.size) (own_ge HOW.out)); have HG5 := Lib.hid hg5; clear hown5 hg5))
      have K5 : ∀ {q : Pt}, (w3.alloc (Obj.cells #[.int .u64 pid, .slice A3 m c3] 26)).ownsRow w.heap.size 36 4 (.slice q.A q.fs.length q.c) q.fs.length (scells q.fs) → w5.ownsRow w.heap.size 36 4 (.slice q.A q.fs.length q.c) q.fs.length (scells q.fs) := fun {q} h =>
        own_kw (S := fun b => u3.ownBlock = some b) h ((Kw.refl _ _).grown HG5.out (fun k hk => hk)) (fun b hb hS => own_ne HOW4.out h (by decide) b hS hb)
      have HF5 : Hid (∀ q ∈ L ++ [(⟨pid, pfs, A3, c3⟩ : Pt)], w5.ownsRow w.heap.size 36 4 (.slice q.A q.fs.length q.c) q.fs.length (scells q.fs)) := Lib.hid (fun q hq => by
        rcases List.mem_append.1 hq with h | h
        · exact K5 (own_new (HFI.out q h) HB4.out)
        · rw [List.mem_singleton.1 h]
          refine K5 (q := ⟨pid, pfs, A3, c3⟩) ?_
          dsimp only
          rw [HM.out]
          exact (own_le HO3.out hws).alloc _)
      have HI5 : Hid (∀ j, j < i + 1 → ((L ++ [(⟨pid, pfs, A3, c3⟩ : Pt)]).getD j zeroP).id = (l.getD j zeroP).id ∧ ((L ++ [(⟨pid, pfs, A3, c3⟩ : Pt)]).getD j zeroP).fs = (l.getD j zeroP).fs) := Lib.hid (fun j hj => by
        by_cases hji : j = i
        · rw [hji, HP.out, getP (by rw [List.length_append, HLI.out]; simp), List.getElem_append_right (by rw [HLI.out]; exact Nat.le_refl _)]
          simp [HLI.out]
        · have hjl : j < L.length := by rw [HLI.out]; omega
          rw [getP (by rw [List.length_append]; omega), List.getElem_append_left hjl, ← getP hjl]
          exact HID.out j (by omega))
      have HL5 : Hid ((L ++ [(⟨pid, pfs, A3, c3⟩ : Pt)]).length = i + 1) := Lib.hid (by rw [List.length_append, HLI.out]; rfl)
      clear K5
      go_wp2_with (fail)
      go_roundw
      case rel => exact ⟨i + 1, _, by omega, by first | rfl | (push_cast; rfl) | go_num, HL5.out, HO5.out, HI5.out, HF5.out, HB5.out⟩
      case measure => simp [intOf]; omega
    · have hine : n = i := by omega
      subst hine
      have hirr : ¬ (n : Int) < (n : Int) := by omega
      go_wp2_with ((at_builtin; refine Hid.out ?_))
      refine Lib.hid ?_
      have HB4 : Hid (Below wr.heap.size wr (wr.alloc (Obj.cells #[.int .u64 77, .slice none 0 0] 26))) := Lib.hid ((Below.refl wr.heap.size wr).alloc (Nat.le_refl _) _)
      have HOW4 := Lib.hid (own_new HOW.out HB4.out)
      refine wpList_append_p _ (by rfl) _ _ rfl w.heap.size n _ L rfl HOW4.out (some ⟨wr.heap.size, 0, none⟩) 1 1 [⟨77, [], none, 0⟩] rfl rfl ?_ (fun h => by cases h) (by omega) (Nat.le_trans hws HB4.out.size) ?_
      · intro ad had j u hu
        cases had
        have h2 := two_new wr (.int .u64 77) (.slice none 0 0) 26
        match j with
        | 0 =>
          have hu : some (Value.int .u64 77) = some u := hu
          rw [← hu]
          exact h2.1
        | 1 =>
          have hu : some (Value.slice none 0 0) = some u := hu
          rw [← hu]
          exact h2.2
        | j + 2 => exact absurd hu (by simp [pcells])
      intro v5 w5 hown5 hg5
      have HB5 : Hid (Below w.heap.size w w5) := Lib.hid ((HBL.out.trans (HB4.out.mono hws)).grown hg5 (Nat.le_trans hws HB4.out.size) (own_ge HOW.out))
      have K5 : ∀ q ∈ L, w5.ownsRow w.heap.size 36 4 (.slice q.A q.fs.length q.c) q.fs.length (scells q.fs) := fun q hq => by
        have h := own_new (HFI.out q hq) HB4.out
        exact own_kw (S := fun b => u3.ownBlock = some b) h ((Kw.refl _ _).grown hg5 (fun k hk => hk)) (fun b hb hS => own_ne HOW4.out h (by decide) b hS hb)
      have HK5 := Lib.hid K5
      have HO5 := Lib.hid hown5
      obtain ⟨g, c5, rfl, hc5, hBg, hg⟩ : ∃ g c5, v5 = .slice (some ⟨g, 0, none⟩) (n + 1) c5 ∧ n + 1 ≤ c5 ∧ w.heap.size ≤ g ∧ g < w5.heap.size := by
        rcases own_form hown5 with ⟨_, h0⟩ | ⟨g, c5, e, h1, h2, h3⟩
        · omega
        · exact ⟨g, c5, e, h1, h2, h3⟩
      clear hown5 hg5 K5
      go_wp2_with (fail)
      have hg1 : ∀ j, j < n → (L ++ [(⟨77, [], none, 0⟩ : Pt)]).getD j zeroP = L.getD j zeroP := fun j hj => by
        have hjl : j < L.length := by rw [HLI.out]; exact hj
        rw [getP (by rw [List.length_append]; omega), List.getElem_append_left hjl, ← getP hjl]
      have hg2 : (L ++ [(⟨77, [], none, 0⟩ : Pt)]).getD n zeroP = ⟨77, [], none, 0⟩ := by
        rw [getP (by rw [List.length_append, HLI.out]; simp), List.getElem_append_right (by rw [HLI.out]; exact Nat.le_refl _)]
        simp [HLI.out]
      have hll : (L ++ [(⟨77, [], none, 0⟩ : Pt)]).length = n + 1 := by rw [List.length_append, HLI.out]; rfl
      have hsame : sameP L l := ⟨by rw [HLI.out, HLN.out], fun j hj => HID.out j (by rw [← HLN.out]; exact hj)⟩
      have hrd : RdP w5 w5.heap.size (some ⟨g, 0, none⟩) L := by
        refine ⟨fun _ => ⟨g, 0, rfl, hg, Nat.le_refl _, fun j hj => ?_⟩, fun q hq => own_rs (HK5.out q hq) rfl⟩
        rw [HLI.out] at hj
        obtain ⟨d0, d1⟩ := pcells_get (L ++ [(⟨77, [], none, 0⟩ : Pt)]) j (by rw [hll]; omega)
        rw [hg1 j hj] at d0 d1
        rw [Nat.zero_add]
        exact ⟨(own_cell HO5.out _ _ d0).1, (own_cell HO5.out _ _ d1).1⟩
      have hmark : w5.cell? ⟨g, n * 2, none⟩ = some (.int .u64 77) := by
        obtain ⟨d0, _⟩ := pcells_get (L ++ [(⟨77, [], none, 0⟩ : Pt)]) n (by rw [hll]; omega)
        rw [hg2] at d0
        exact (own_cell HO5.out _ _ d0).1
      go_ret
      exact ⟨g, c5, L, rfl, hc5, hsame, hBg, hg, hrd, hmark, HB5.out⟩
end Go.Proofs.Ytmalcekbhnkfgaa
namespace Go.Proofs.Ytmalcekbhnkfgaa
open Go.RowKit Go.Maps Go.Shelf
set_option linter.unusedVariables false
set_option linter.unusedSimpArgs false

set_option maxRecDepth 100000 in
set_option maxHeartbeats 2000000 in
theorem kept_any (g c' : Nat) (A : Option Addr) (c n : Nat) (L l : List Pt) (w : World) (hL : L.length = n) (hl : l.length = n) (hn : n ≤ 100000) (hfn : ∀ p ∈ L, p.fs.length ≤ 1000000) (hc : n + 1 ≤ c')
    (hRL : RdP w w.heap.size (some ⟨g, 0, none⟩) L) (hRl : RdP w w.heap.size A l) (hg : g < w.heap.size) (hm : w.cell? ⟨g, n * 2, none⟩ = some (.int .u64 77)) :
    Calls Try.prog 18 #[.slice (some ⟨g, 0, none⟩) n c', .slice A n c] w fun e w' => e = .returned (.bool (eqP L l)) ∧ Below w.heap.size w w' := by
  have HS := Lib.hid (same_same (some ⟨g, 0, none⟩) A n c' c L l w hL hl (by omega) hfn hRL hRl)
  have HM := Lib.hid hm
  have hj0 : (0 : Int) ≤ (n : Int) + 1 := by omega
  have hj1 : (n : Int) + 1 ≤ (c' : Int) := by omega
  have hj2 : ((n : Int) + 1).toNat = n + 1 := by omega
  have hj3 : (n : Int) < (n : Int) + 1 := by omega
  have hj4 : (0 : Int) ≤ (n : Int) := by omega
  have hj5 : (n : Int) < ((n + 1 : Nat) : Int) := by omega
  have hj6 : (n : Int) ≤ 100000 := by omega
  clear hL hl hfn hRL hRl hm
  generalize eqP L l = q at *
  go_enter Try.func18, Try.ntmps18
  go_wp2_with (fail)
  refine HS.out.mono ?_
  rintro e w1 ⟨rfl, hb1⟩
  have m1 := (hb1.cell (p := ⟨g, n * 2, none⟩) hg).trans HM.out
  have hg1 : g < w1.heap.size := Nat.lt_of_lt_of_le hg hb1.size
  have HB1 := Lib.hid hb1
  clear hb1
  cases q with
  | false =>
    go_wp2_with (fail)
    go_ret
    exact ⟨rfl, HB1.out⟩
  | true =>
    go_wp2_with (fail)
    go_ret
    exact ⟨rfl, HB1.out⟩
end Go.Proofs.Ytmalcekbhnkfgaa
namespace Go.Proofs.Ytmalcekbhnkfgaa
open Go.RowKit Go.Maps Go.Shelf
set_option linter.unusedVariables false
set_option linter.unusedSimpArgs false

set_option maxRecDepth 100000 in
set_option maxHeartbeats 4000000 in
theorem radd_wrong (A : Option Addr) (n c : Nat) (l : List Pt) (p : Pt) (w : World) (hl : l.length = n) (hA : RdP w w.heap.size A l) (hr : ¬ RightP l) :
    Calls Try.prog 14 #[.slice A n c, ptV p] w fun e w' => e = .returned (.tuple #[.slice none 0 0, .int .i64 2]) ∧ Below w.heap.size w w' := by
  have hR := fun (X : World) (h : Below w.heap.size w X) => rright_any A c l X ((hA.below h).more h.size (Nat.le_refl _))
  rw [hl, rightB_f hr] at hR
  have HR := Lib.hid hR
  clear hR hA hr hl
  obtain ⟨pid, pfs, pA, pc⟩ := p
  unfold ptV at *
  dsimp only at *
  have bP := BoxP.new w ⟨pid, pfs, pA, pc⟩
  have hbA := bl_alloc (Below.refl w.heap.size w) (Obj.cells #[.int .u64 pid, .slice pA pfs.length pc] 26)
  have hsA : (w.alloc (Obj.cells #[.int .u64 pid, .slice pA pfs.length pc] 26)).heap.size = w.heap.size + 1 := by simp
  dsimp only at bP
  go_enter Try.func14, Try.ntmps14
  go_wp2_with (fail)
  generalize (w.alloc (Obj.cells #[.int .u64 pid, .slice pA pfs.length pc] 26)) = WA at *
  obtain ⟨x0, x1⟩ := bP.cells
  dsimp only at x0 x1
  have HBA := Lib.hid hbA
  have BP := Lib.hid bP
  have HX : Hid (∀ X : Ext WA, Calls Try.prog 17 #[.slice A n c] X.val fun e w' => e = .returned (.bool false) ∧ Below X.val.heap.size X.val w') := Lib.hid fun X => HR.out X.val (hbA.trans (X.bl.mono (by omega)))
  have e0 := ext_cell x0
  have e1 := ext_cell x1
  clear hbA bP
  refine wp_region_ext (by kernel_rfl) (by kernel_rfl) ?_
  repeat (first | fail | go_big_quiet_step (first | (go_at_call 17; exact ext_calls (HX.out _)) ))
  refine wpQuiet_nil ?_
  rintro w2 ⟨⟨_, hb2⟩, rfl⟩
  have hs2 := hb2.size
  have HB2 := Lib.hid (HBA.out.trans (hb2.mono (by omega)))
  clear hb2
  go_wp2_with (fail)
  go_ret2
  exact ⟨rfl, HB2.out⟩
set_option maxRecDepth 100000 in
set_option maxHeartbeats 4000000 in
theorem radd_maynot (A : Option Addr) (n c : Nat) (l : List Pt) (p : Pt) (w : World) (hl : l.length = n) (hA : RdP w w.heap.size A l) (hr : RightP l) (hp : ¬ mayP p) (hpr : RdS w w.heap.size p.A p.fs) :
    Calls Try.prog 14 #[.slice A n c, ptV p] w fun e w' => e = .returned (.tuple #[.slice none 0 0, .int .i64 2]) ∧ Below w.heap.size w w' := by
  have hR := fun (X : World) (h : Below w.heap.size w X) => rright_any A c l X ((hA.below h).more h.size (Nat.le_refl _))
  rw [hl, rightB_t hr] at hR
  have HR := Lib.hid hR
  have hM := fun (X : World) (h : Below w.heap.size w X) => rmay_any p X ((hpr.below h).more h.size (Nat.le_refl _))
  rw [mayB_f hp] at hM
  have HM := Lib.hid hM
  clear hR hM hA hr hl hp hpr
  obtain ⟨pid, pfs, pA, pc⟩ := p
  unfold ptV at *
  dsimp only at *
  have bP := BoxP.new w ⟨pid, pfs, pA, pc⟩
  have hbA := bl_alloc (Below.refl w.heap.size w) (Obj.cells #[.int .u64 pid, .slice pA pfs.length pc] 26)
  have hsA : (w.alloc (Obj.cells #[.int .u64 pid, .slice pA pfs.length pc] 26)).heap.size = w.heap.size + 1 := by simp
  dsimp only at bP
  go_enter Try.func14, Try.ntmps14
  go_wp2_with (fail)
  generalize (w.alloc (Obj.cells #[.int .u64 pid, .slice pA pfs.length pc] 26)) = WA at *
  obtain ⟨x0, x1⟩ := bP.cells
  dsimp only at x0 x1
  have HBA := Lib.hid hbA
  have BP := Lib.hid bP
  have HX : Hid (∀ X : Ext WA, Calls Try.prog 17 #[.slice A n c] X.val fun e w' => e = .returned (.bool true) ∧ Below X.val.heap.size X.val w') := Lib.hid fun X => HR.out X.val (hbA.trans (X.bl.mono (by omega)))
  have HY : Hid (∀ X : Ext WA, Calls Try.prog 33 #[.agg #[.int .u64 pid, .slice pA pfs.length pc]] X.val fun e w' => e = .returned (.bool false) ∧ Below X.val.heap.size X.val w') := Lib.hid fun X => HM.out X.val (hbA.trans (X.bl.mono (by omega)))
  have e0 := ext_cell x0
  have e1 := ext_cell x1
  clear hbA bP
  refine wp_region_ext (by kernel_rfl) (by kernel_rfl) ?_
  repeat (first | fail | go_big_quiet_step (first | (go_at_call 17; exact ext_calls (HX.out _)) | (go_at_call 33; exact ext_calls (HY.out _))))
  refine wpQuiet_nil ?_
  rintro w2 ⟨⟨_, hb2⟩, rfl⟩
  have hs2 := hb2.size
  have HB2 := Lib.hid (HBA.out.trans (hb2.mono (by omega)))
  clear hb2
  go_wp2_with (fail)
  go_ret2
  exact ⟨rfl, HB2.out⟩
set_option maxRecDepth 100000 in
set_option maxHeartbeats 4000000 in
theorem radd_arg (A : Option Addr) (n c : Nat) (l : List Pt) (p : Pt) (w : World) (hl : l.length = n) (hA : RdP w w.heap.size A l) (hr : RightP l) (hp : mayP p) (hpr : RdS w w.heap.size p.A p.fs) (hn : 0 < n) (hlast : p.id ≤ (l.getD (n - 1) zeroP).id) :
    Calls Try.prog 14 #[.slice A n c, ptV p] w fun e w' => e = .returned (.tuple #[.slice none 0 0, .int .i64 2]) ∧ Below w.heap.size w w' := by
  have hR := fun (X : World) (h : Below w.heap.size w X) => rright_any A c l X ((hA.below h).more h.size (Nat.le_refl _))
  rw [hl, rightB_t hr] at hR
  have HR := Lib.hid hR
  have hM := fun (X : World) (h : Below w.heap.size w X) => rmay_any p X ((hpr.below h).more h.size (Nat.le_refl _))
  rw [mayB_t hp] at hM
  have HM := Lib.hid hM
  have hn16 : n ≤ 16 := by have := hr.1; omega
  obtain ⟨b, off, rfl, hb, _, hc⟩ := hA.1 (by omega)
  have hlc := (hc (n - 1) (by omega)).1
  obtain ⟨v, hv⟩ : ∃ v, (l.getD (n - 1) zeroP).id = v := ⟨_, rfl⟩
  rw [hv] at hlc hlast
  have HLC := Lib.hid hlc
  have hn0 : (0 : Int) < (n : Int) := by omega
  have hj0 : (0 : Int) ≤ (n : Int) - 1 := by omega
  have hj1 : (n : Int) - 1 < (n : Int) := by omega
  have hjn : ((n : Int) - 1).toNat = n - 1 := by omega
  clear hlc hc hv
  clear hR hM hA hr hl hp hpr
  obtain ⟨pid, pfs, pA, pc⟩ := p
  unfold ptV at *
  dsimp only at *
  have bP := BoxP.new w ⟨pid, pfs, pA, pc⟩
  have hbA := bl_alloc (Below.refl w.heap.size w) (Obj.cells #[.int .u64 pid, .slice pA pfs.length pc] 26)
  have hsA : (w.alloc (Obj.cells #[.int .u64 pid, .slice pA pfs.length pc] 26)).heap.size = w.heap.size + 1 := by simp
  dsimp only at bP
  go_enter Try.func14, Try.ntmps14
  go_wp2_with (fail)
  generalize (w.alloc (Obj.cells #[.int .u64 pid, .slice pA pfs.length pc] 26)) = WA at *
  obtain ⟨x0, x1⟩ := bP.cells
  dsimp only at x0 x1
  have HBA := Lib.hid hbA
  have BP := Lib.hid bP
  have HX : Hid (∀ X : Ext WA, Calls Try.prog 17 #[.slice (some ⟨b, off, none⟩) n c] X.val fun e w' => e = .returned (.bool true) ∧ Below X.val.heap.size X.val w') := Lib.hid fun X => HR.out X.val (hbA.trans (X.bl.mono (by omega)))
  have HY : Hid (∀ X : Ext WA, Calls Try.prog 33 #[.agg #[.int .u64 pid, .slice pA pfs.length pc]] X.val fun e w' => e = .returned (.bool true) ∧ Below X.val.heap.size X.val w') := Lib.hid fun X => HM.out X.val (hbA.trans (X.bl.mono (by omega)))
  have H0 : Hid (decide ((0 : Int) < (n : Int)) = true) := dec_t hn0
  have H0n : Hid (decide (0 < n) = true) := dec_t (by omega)
  have H1 : Hid (decide (pid ≤ v) = true) := dec_t (by omega)
  have e2 := ext_cell ((HBA.out.cell (p := ⟨b, off + (n - 1) * 2, none⟩) hb).trans HLC.out)
  have e0 := ext_cell x0
  have e1 := ext_cell x1
  clear hbA bP
  refine wp_region_ext (by kernel_rfl) (by kernel_rfl) ?_
  repeat (first | rw [H0.out] | rw [H0n.out] | rw [H1.out] | go_big_quiet_step (first | (go_at_call 17; exact ext_calls (HX.out _)) | (go_at_call 33; exact ext_calls (HY.out _))))
  refine wpQuiet_nil ?_
  rintro w2 ⟨⟨_, hb2⟩, rfl⟩
  have hs2 := hb2.size
  have HB2 := Lib.hid (HBA.out.trans (hb2.mono (by omega)))
  clear hb2
  go_wp2_with (fail)
  go_ret2
  exact ⟨rfl, HB2.out⟩
set_option maxRecDepth 100000 in
set_option maxHeartbeats 4000000 in
theorem radd_good0 (A : Option Addr) (n c : Nat) (l : List Pt) (p : Pt) (w : World) (hl : l.length = n) (hA : RdP w w.heap.size A l) (hr : RightP l) (hp : mayP p) (hpr : RdS w w.heap.size p.A p.fs) (hpc : p.fs.length ≤ p.c) (hnone : A = none → c = 0) (hn : n = 0) :
    Calls Try.prog 14 #[.slice A n c, ptV p] w fun e w' => ∃ v, e = .returned (.tuple #[v, .int .i64 (addG l p)]) ∧ (addG l p ≠ 0 → v = .slice none 0 0) ∧ (addG l p = 0 → ∃ A' c', v = .slice A' (n + 1) c' ∧ RdP w' w'.heap.size A' (l ++ [p])) ∧ Below w.heap.size w w' := by
  have hR := fun (X : World) (h : Below w.heap.size w X) => rright_any A c l X ((hA.below h).more h.size (Nat.le_refl _))
  rw [hl, rightB_t hr] at hR
  have HR := Lib.hid hR
  have hM := fun (X : World) (h : Below w.heap.size w X) => rmay_any p X ((hpr.below h).more h.size (Nat.le_refl _))
  rw [mayB_t hp] at hM
  have HM := Lib.hid hM
  have hfs : ∀ p ∈ l, p.fs.length ≤ 256 := fun p hp => (hr.2.1 p hp).2.1
  have hn16 : n ≤ 16 := by have := hr.1; omega
  have hp256 := hp.2.1
  have HN0 := Lib.hid hn
  clear hn
  have HA := Lib.hid hA
  have HFS := Lib.hid hfs
  have HL := Lib.hid hl
  have HPR := Lib.hid hpr
  have HPC := Lib.hid hpc
  have HNO := Lib.hid hnone
  clear hfs hR hM hA hr hl hpr hp hpc hnone
  obtain ⟨pid, pfs, pA, pc⟩ := p
  unfold ptV at *
  dsimp only at *
  have bP := BoxP.new w ⟨pid, pfs, pA, pc⟩
  have hbA := bl_alloc (Below.refl w.heap.size w) (Obj.cells #[.int .u64 pid, .slice pA pfs.length pc] 26)
  have hsA : (w.alloc (Obj.cells #[.int .u64 pid, .slice pA pfs.length pc] 26)).heap.size = w.heap.size + 1 := by simp
  dsimp only at bP
  go_enter Try.func14, Try.ntmps14
  go_wp2_with (fail)
  generalize (w.alloc (Obj.cells #[.int .u64 pid, .slice pA pfs.length pc] 26)) = WA at *
  obtain ⟨x0, x1⟩ := bP.cells
  dsimp only at x0 x1
  have HBA := Lib.hid hbA
  have BP := Lib.hid bP
  have HX : Hid (∀ X : Ext WA, Calls Try.prog 17 #[.slice A n c] X.val fun e w' => e = .returned (.bool true) ∧ Below X.val.heap.size X.val w') := Lib.hid fun X => HR.out X.val (hbA.trans (X.bl.mono (by omega)))
  have HY : Hid (∀ X : Ext WA, Calls Try.prog 33 #[.agg #[.int .u64 pid, .slice pA pfs.length pc]] X.val fun e w' => e = .returned (.bool true) ∧ Below X.val.heap.size X.val w') := Lib.hid fun X => HM.out X.val (hbA.trans (X.bl.mono (by omega)))
  have H0 : Hid (decide ((0 : Int) < (n : Int)) = false) := dec_f (by have := HN0.out; omega)
  have H0n : Hid (decide (0 < n) = false) := dec_f (by have := HN0.out; omega)
  have e0 := ext_cell x0
  have e1 := ext_cell x1
  clear hbA bP
  refine wp_region_ext (by kernel_rfl) (by kernel_rfl) ?_
  repeat (first | rw [H0.out] | rw [H0n.out] | go_big_quiet_step (first | (go_at_call 17; exact ext_calls (HX.out _)) | (go_at_call 33; exact ext_calls (HY.out _))))
  refine wpQuiet_nil ?_
  rintro w2 ⟨⟨_, hb2⟩, rfl⟩
  have hs2 := hb2.size
  have HB2 := Lib.hid (HBA.out.trans (hb2.mono (by omega)))
  have BP2 : Hid (BoxP w2 w.heap.size ⟨pid, pfs, pA, pc⟩) := Lib.hid (BP.out.kw hb2 (by omega))
  clear hb2 e0 e1 x0 x1 
  go_wp2_with (fail)
  go_loopw [6] (fun vi wr => ∃ i : Nat, i ≤ n ∧ vi = .int .i64 i ∧ (∀ j, j < i → ¬ clashL (l.getD j zeroP).fs pfs) ∧ Below w2.heap.size w2 wr) (fun i _ => n - (intOf i).toNat)
  case atStart => exact ⟨0, Nat.zero_le _, rfl, fun j hj => by omega, Below.refl _ _⟩
  case round =>
    obtain ⟨i, hin, rfl, hnk, hbl⟩ := hrel
    have HNK := Lib.hid hnk
    have HBL := Lib.hid hbl
    have hws := hbl.size
    have HBW := Lib.hid (HB2.out.trans (hbl.mono HB2.out.size))
    obtain ⟨x0, x1⟩ := (BP2.out.kw hbl (by omega)).cells
    dsimp only at x0 x1
    have hlw : w.heap.size < wr.heap.size := by omega
    clear hnk hbl
    by_cases hi : i < n
    · have hi0 : (0 : Int) ≤ (i : Int) := by omega
      have hi1 : (i : Int) < (n : Int) := by omega
      obtain ⟨pb, po, hpe, hpb, _, hpc⟩ := HA.out.1 (by rw [HL.out]; omega)
      cases hpe
      obtain ⟨a0, a1⟩ := hpc i (by rw [HL.out]; exact hi)
      have hqm : l.getD i zeroP ∈ l := getP_mem (by rw [HL.out]; exact hi)
      have hqr := (HA.out.2 _ hqm).1
      have hq2 := HFS.out _ hqm
      obtain ⟨q, hq⟩ : ∃ q, l.getD i zeroP = q := ⟨_, rfl⟩
      rw [hq] at a0 a1 hqr hq2 hqm
      have HQ := Lib.hid hq
      have HQM := Lib.hid hqm
      have t0 := ext_cell ((HBW.out.cell (p := ⟨pb, po + i * 2, none⟩) hpb).trans a0)
      have t1 := ext_cell ((HBW.out.cell (p := ⟨pb, po + i * 2 + 1, none⟩) hpb).trans a1)
      have e0 := ext_cell x0
      have e1 := ext_cell x1
      have HLL : Hid (∀ X : Ext wr, Calls Try.prog 34 #[.agg #[.int .u64 q.id, .slice q.A q.fs.length q.c], .agg #[.int .u64 pid, .slice pA pfs.length pc]] X.val fun e w' => e = .returned (.bool (clashB q.fs pfs)) ∧ Below X.val.heap.size X.val w') := Lib.hid fun X => by
        have hX := HBW.out.trans (X.bl.mono HBW.out.size)
        exact clash_any q ⟨pid, pfs, pA, pc⟩ X.val (by omega) (by dsimp only; omega) ((hqr.below hX).more hX.size (Nat.le_refl _)) ((HPR.out.below hX).more hX.size (Nat.le_refl _))
      clear hpc hq hqr hqm hq2 a0 a1
      by_cases hcl : clashL q.fs pfs
      · have HG : Hid (addG l ⟨pid, pfs, pA, pc⟩ = 5) := Lib.hid (by
          obtain ⟨f, hf, g, hg, e1, e2⟩ := hcl
          unfold addG
          rw [if_pos ⟨f, mem_allF.2 ⟨q, HQM.out, hf⟩, g, hg, e1, e2⟩])
        rw [clashB_t hcl] at HLL
        clear hcl
        go_wp2_with (fail)
        refine wp_region_ext (by kernel_rfl) (by kernel_rfl) ?_
        repeat (go_big_quiet_step ((go_at_call 34; exact ext_calls (HLL.out _))))
        refine wpQuiet_nil ?_
        rintro w8 ⟨⟨_, hb8⟩, rfl⟩
        have HB8 := Lib.hid (HBW.out.trans (hb8.mono HBW.out.size))
        clear hb8
        go_wp2_with (fail)
        go_ret2
        exact ⟨_, by rw [HG.out] <;> rfl, fun _ => rfl, fun h => by rw [HG.out] at h; omega, HB8.out⟩
      · have HV : Hid (∀ j, j < i + 1 → ¬ clashL (l.getD j zeroP).fs pfs) := Lib.hid (fun j hj => by
          by_cases hjk : j = i
          · rw [hjk, HQ.out]
            exact hcl
          · exact HNK.out j (by omega))
        rw [clashB_f hcl] at HLL
        clear hcl
        go_wp2_with (fail)
        refine wp_region_ext (by kernel_rfl) (by kernel_rfl) ?_
        repeat (go_big_quiet_step ((go_at_call 34; exact ext_calls (HLL.out _))))
        refine wpQuiet_nil ?_
        rintro w8 ⟨⟨_, hb8⟩, rfl⟩
        have HB8 := Lib.hid (HBL.out.trans (hb8.mono HBL.out.size))
        clear hb8
        go_wp2_with (fail)
        go_roundw
        case rel => exact ⟨i + 1, by omega, by first | rfl | (push_cast; rfl) | go_num, HV.out, HB8.out⟩
        case measure => simp [intOf]; omega
    · have hine : n = i := by omega
      subst hine
      have hirr : ¬ (n : Int) < (n : Int) := by omega
      have HC : Hid (¬ clashL (allF l) pfs) := Lib.hid (by
        rintro ⟨f, hf, g, hg, e1, e2⟩
        obtain ⟨q, hq, hfq⟩ := mem_allF.1 hf
        obtain ⟨j, hj, rfl⟩ := List.mem_iff_getElem.1 hq
        refine HNK.out j (by rw [← HL.out]; exact hj) ⟨f, ?_, g, hg, e1, e2⟩
        rw [getP hj]
        exact hfq)
      by_cases h16 : n = 16
      · have HG : Hid (addG l ⟨pid, pfs, pA, pc⟩ = 3) := Lib.hid (by unfold addG; rw [if_neg HC.out, if_pos (by rw [HL.out]; exact h16)])
        subst h16
        go_wp2_with (fail)
        go_ret2
        exact ⟨_, by rw [HG.out] <;> rfl, fun _ => rfl, fun h => by rw [HG.out] at h; omega, HBW.out⟩
      · have HG : Hid (addG l ⟨pid, pfs, pA, pc⟩ = 0) := Lib.hid (by unfold addG; rw [if_neg HC.out, if_neg (by rw [HL.out]; exact h16)])
        have hne16 : ¬ (n : Int) = 16 := by omega
        have hneb : ((n : Int) == 16) = false := by simpa using hne16
        clear h16
        go_wp2_with ((at_builtin; refine Hid.out ?_))
        refine Lib.hid ?_
        have HB3 : Hid (Below wr.heap.size wr (wr.alloc (Obj.cells #[] 26))) := Lib.hid ((Below.refl wr.heap.size wr).alloc (Nat.le_refl _) _)
        have HO3 : Hid ((wr.alloc (Obj.cells #[] 26)).ownsRow wr.heap.size 26 2 (.slice (some ⟨wr.heap.size, 0, none⟩) 0 0) 0 (pcells [])) := Lib.hid (World.ownsRow_made (base := wr.heap.size) (e := 26) (size := 2) wr #[] 0 (Nat.le_refl _) (by decide) rfl)
        have hs3 : (wr.alloc (Obj.cells #[] 26)).heap.size = wr.heap.size + 1 := by simp
        have HA3 := Lib.hid (HA.out.below (HBW.out.trans (HB3.out.mono HBW.out.size)))
        generalize (wr.alloc (Obj.cells #[] 26)) = w3 at *
        refine wpList_append_p _ (by rfl) _ _ rfl wr.heap.size 0 _ [] rfl HO3.out A n c l HL.out rfl (fun ad had => rdP_at (by rw [← had]; exact HA3.out)) (fun h => ⟨HNO.out h, by
          rcases Nat.eq_zero_or_pos n with h0 | h0
          · exact h0
          · obtain ⟨_, _, e, _⟩ := HA.out.1 (by rw [HL.out]; exact h0)
            rw [h] at e
            cases e⟩) (by omega) (by omega) ?_
        intro v4 w4 hown4 hg4
        rw [Nat.zero_add, List.nil_append] at hown4
        have HO4 := Lib.hid hown4
        have HB4 : Hid (Below wr.heap.size wr w4) := Lib.hid (HB3.out.grown hg4 HB3.out.size (own_ge HO3.out))
        have hs4 := HB4.out.size
        have x0 := (HB4.out.cell (p := ⟨w.heap.size, 0, none⟩) hlw).trans x0
        have x1 := (HB4.out.cell (p := ⟨w.heap.size, 1, none⟩) hlw).trans x1
        have hlw4 : w.heap.size < w4.heap.size := by omega
        clear hown4 hg4
        go_wp2_with ((at_builtin; refine Hid.out ?_))
        refine Lib.hid ?_
        have HB5 : Hid (Below w4.heap.size w4 (w4.alloc (Obj.cells #[.int .u64 pid, .slice pA pfs.length pc] 26))) := Lib.hid ((Below.refl w4.heap.size w4).alloc (Nat.le_refl _) _)
        have HO5 := Lib.hid (own_new HO4.out HB5.out)
        have h2 := two_new w4 (.int .u64 pid) (.slice pA pfs.length pc) 26
        refine wpList_append_p _ (by rfl) _ _ rfl wr.heap.size n _ l rfl HO5.out (some ⟨w4.heap.size, 0, none⟩) 1 1 [⟨pid, pfs, pA, pc⟩] rfl rfl ?_ (fun h => by cases h) (by omega) (Nat.le_trans hs4 HB5.out.size) ?_
        · intro ad had j u hu
          cases had
          match j with
          | 0 =>
            have hu : some (Value.int .u64 pid) = some u := hu
            rw [← hu]
            exact h2.1
          | 1 =>
            have hu : some (Value.slice pA pfs.length pc) = some u := hu
            rw [← hu]
            exact h2.2
          | j + 2 => exact absurd hu (by simp [pcells])
        intro v6 w6 hown6 hg6
        have HB6 : Hid (Below wr.heap.size wr w6) := Lib.hid ((HB4.out.trans (HB5.out.mono hs4)).grown hg6 (Nat.le_trans hs4 HB5.out.size) (own_ge HO4.out))
        have HW6 := Lib.hid (HBW.out.trans (HB6.out.mono HBW.out.size))
        have hs6 := HW6.out.size
        have hR6 := own_rp hown6 (by rw [List.length_append, HL.out]; rfl) (fun q hq => by
          rcases List.mem_append.1 hq with h | h
          · exact ⟨((HA.out.2 q h).1.below HW6.out).more hs6 (Nat.le_refl _), (HA.out.2 q h).2⟩
          · rw [List.mem_singleton.1 h]
            exact ⟨(HPR.out.below HW6.out).more hs6 (Nat.le_refl _), HPC.out⟩)
        obtain ⟨A6, c6, rfl, hr6, hc6⟩ := hR6
        have HR6 := Lib.hid hr6
        clear hown6 hg6 h2 hr6
        go_wp2_with (fail)
        go_ret2
        exact ⟨_, by rw [HG.out] <;> rfl, fun h => absurd HG.out h, fun _ => ⟨A6, c6, rfl, HR6.out⟩, HW6.out⟩
set_option maxRecDepth 100000 in
set_option maxHeartbeats 4000000 in
theorem radd_goodN (A : Option Addr) (n c : Nat) (l : List Pt) (p : Pt) (w : World) (hl : l.length = n) (hA : RdP w w.heap.size A l) (hr : RightP l) (hp : mayP p) (hpr : RdS w w.heap.size p.A p.fs) (hpc : p.fs.length ≤ p.c) (hnone : A = none → c = 0) (hn : 0 < n) (hlast : (l.getD (n - 1) zeroP).id < p.id) :
    Calls Try.prog 14 #[.slice A n c, ptV p] w fun e w' => ∃ v, e = .returned (.tuple #[v, .int .i64 (addG l p)]) ∧ (addG l p ≠ 0 → v = .slice none 0 0) ∧ (addG l p = 0 → ∃ A' c', v = .slice A' (n + 1) c' ∧ RdP w' w'.heap.size A' (l ++ [p])) ∧ Below w.heap.size w w' := by
  have hR := fun (X : World) (h : Below w.heap.size w X) => rright_any A c l X ((hA.below h).more h.size (Nat.le_refl _))
  rw [hl, rightB_t hr] at hR
  have HR := Lib.hid hR
  have hM := fun (X : World) (h : Below w.heap.size w X) => rmay_any p X ((hpr.below h).more h.size (Nat.le_refl _))
  rw [mayB_t hp] at hM
  have HM := Lib.hid hM
  have hfs : ∀ p ∈ l, p.fs.length ≤ 256 := fun p hp => (hr.2.1 p hp).2.1
  have hn16 : n ≤ 16 := by have := hr.1; omega
  have hp256 := hp.2.1
  obtain ⟨b, off, rfl, hb, _, hc⟩ := hA.1 (by omega)
  have hlc := (hc (n - 1) (by omega)).1
  obtain ⟨v, hv⟩ : ∃ v, (l.getD (n - 1) zeroP).id = v := ⟨_, rfl⟩
  rw [hv] at hlc hlast
  have HLC := Lib.hid hlc
  have hn0 : (0 : Int) < (n : Int) := by omega
  have hj0 : (0 : Int) ≤ (n : Int) - 1 := by omega
  have hj1 : (n : Int) - 1 < (n : Int) := by omega
  have hjn : ((n : Int) - 1).toNat = n - 1 := by omega
  clear hlc hc hv
  have HA := Lib.hid hA
  have HFS := Lib.hid hfs
  have HL := Lib.hid hl
  have HPR := Lib.hid hpr
  have HPC := Lib.hid hpc
  have HNO := Lib.hid hnone
  clear hfs hR hM hA hr hl hpr hp hpc hnone
  obtain ⟨pid, pfs, pA, pc⟩ := p
  unfold ptV at *
  dsimp only at *
  have bP := BoxP.new w ⟨pid, pfs, pA, pc⟩
  have hbA := bl_alloc (Below.refl w.heap.size w) (Obj.cells #[.int .u64 pid, .slice pA pfs.length pc] 26)
  have hsA : (w.alloc (Obj.cells #[.int .u64 pid, .slice pA pfs.length pc] 26)).heap.size = w.heap.size + 1 := by simp
  dsimp only at bP
  go_enter Try.func14, Try.ntmps14
  go_wp2_with (fail)
  generalize (w.alloc (Obj.cells #[.int .u64 pid, .slice pA pfs.length pc] 26)) = WA at *
  obtain ⟨x0, x1⟩ := bP.cells
  dsimp only at x0 x1
  have HBA := Lib.hid hbA
  have BP := Lib.hid bP
  have HX : Hid (∀ X : Ext WA, Calls Try.prog 17 #[.slice (some ⟨b, off, none⟩) n c] X.val fun e w' => e = .returned (.bool true) ∧ Below X.val.heap.size X.val w') := Lib.hid fun X => HR.out X.val (hbA.trans (X.bl.mono (by omega)))
  have HY : Hid (∀ X : Ext WA, Calls Try.prog 33 #[.agg #[.int .u64 pid, .slice pA pfs.length pc]] X.val fun e w' => e = .returned (.bool true) ∧ Below X.val.heap.size X.val w') := Lib.hid fun X => HM.out X.val (hbA.trans (X.bl.mono (by omega)))
  have H0 : Hid (decide ((0 : Int) < (n : Int)) = true) := dec_t hn0
  have H0n : Hid (decide (0 < n) = true) := dec_t (by omega)
  have H1 : Hid (decide (pid ≤ v) = false) := dec_f (by omega)
  have e2 := ext_cell ((HBA.out.cell (p := ⟨b, off + (n - 1) * 2, none⟩) hb).trans HLC.out)
  have e0 := ext_cell x0
  have e1 := ext_cell x1
  clear hbA bP
  refine wp_region_ext (by kernel_rfl) (by kernel_rfl) ?_
  repeat (first | rw [H0.out] | rw [H0n.out] | rw [H1.out] | go_big_quiet_step (first | (go_at_call 17; exact ext_calls (HX.out _)) | (go_at_call 33; exact ext_calls (HY.out _))))
  refine wpQuiet_nil ?_
  rintro w2 ⟨⟨_, hb2⟩, rfl⟩
  have hs2 := hb2.size
  have HB2 := Lib.hid (HBA.out.trans (hb2.mono (by omega)))
  have BP2 : Hid (BoxP w2 w.heap.size ⟨pid, pfs, pA, pc⟩) := Lib.hid (BP.out.kw hb2 (by omega))
  clear hb2 e0 e1 x0 x1 e2
  go_wp2_with (fail)
  go_loopw [6] (fun vi wr => ∃ i : Nat, i ≤ n ∧ vi = .int .i64 i ∧ (∀ j, j < i → ¬ clashL (l.getD j zeroP).fs pfs) ∧ Below w2.heap.size w2 wr) (fun i _ => n - (intOf i).toNat)
  case atStart => exact ⟨0, Nat.zero_le _, rfl, fun j hj => by omega, Below.refl _ _⟩
  case round =>
    obtain ⟨i, hin, rfl, hnk, hbl⟩ := hrel
    have HNK := Lib.hid hnk
    have HBL := Lib.hid hbl
    have hws := hbl.size
    have HBW := Lib.hid (HB2.out.trans (hbl.mono HB2.out.size))
    obtain ⟨x0, x1⟩ := (BP2.out.kw hbl (by omega)).cells
    dsimp only at x0 x1
    have hlw : w.heap.size < wr.heap.size := by omega
    clear hnk hbl
    by_cases hi : i < n
    · have hi0 : (0 : Int) ≤ (i : Int) := by omega
      have hi1 : (i : Int) < (n : Int) := by omega
      obtain ⟨pb, po, hpe, hpb, _, hpc⟩ := HA.out.1 (by rw [HL.out]; omega)
      cases hpe
      obtain ⟨a0, a1⟩ := hpc i (by rw [HL.out]; exact hi)
      have hqm : l.getD i zeroP ∈ l := getP_mem (by rw [HL.out]; exact hi)
      have hqr := (HA.out.2 _ hqm).1
      have hq2 := HFS.out _ hqm
      obtain ⟨q, hq⟩ : ∃ q, l.getD i zeroP = q := ⟨_, rfl⟩
      rw [hq] at a0 a1 hqr hq2 hqm
      have HQ := Lib.hid hq
      have HQM := Lib.hid hqm
      have t0 := ext_cell ((HBW.out.cell (p := ⟨b, off + i * 2, none⟩) hpb).trans a0)
      have t1 := ext_cell ((HBW.out.cell (p := ⟨b, off + i * 2 + 1, none⟩) hpb).trans a1)
      have e0 := ext_cell x0
      have e1 := ext_cell x1
      have HLL : Hid (∀ X : Ext wr, Calls Try.prog 34 #[.agg #[.int .u64 q.id, .slice q.A q.fs.length q.c], .agg #[.int .u64 pid, .slice pA pfs.length pc]] X.val fun e w' => e = .returned (.bool (clashB q.fs pfs)) ∧ Below X.val.heap.size X.val w') := Lib.hid fun X => by
        have hX := HBW.out.trans (X.bl.mono HBW.out.size)
        exact clash_any q ⟨pid, pfs, pA, pc⟩ X.val (by omega) (by dsimp only; omega) ((hqr.below hX).more hX.size (Nat.le_refl _)) ((HPR.out.below hX).more hX.size (Nat.le_refl _))
      clear hpc hq hqr hqm hq2 a0 a1
      by_cases hcl : clashL q.fs pfs
      · have HG : Hid (addG l ⟨pid, pfs, pA, pc⟩ = 5) := Lib.hid (by
          obtain ⟨f, hf, g, hg, e1, e2⟩ := hcl
          unfold addG
          rw [if_pos ⟨f, mem_allF.2 ⟨q, HQM.out, hf⟩, g, hg, e1, e2⟩])
        rw [clashB_t hcl] at HLL
        clear hcl
        go_wp2_with (fail)
        refine wp_region_ext (by kernel_rfl) (by kernel_rfl) ?_
        repeat (go_big_quiet_step ((go_at_call 34; exact ext_calls (HLL.out _))))
        refine wpQuiet_nil ?_
        rintro w8 ⟨⟨_, hb8⟩, rfl⟩
        have HB8 := Lib.hid (HBW.out.trans (hb8.mono HBW.out.size))
        clear hb8
        go_wp2_with (fail)
        go_ret2
        exact ⟨_, by rw [HG.out] <;> rfl, fun _ => rfl, fun h => by rw [HG.out] at h; omega, HB8.out⟩
      · have HV : Hid (∀ j, j < i + 1 → ¬ clashL (l.getD j zeroP).fs pfs) := Lib.hid (fun j hj => by
          by_cases hjk : j = i
          · rw [hjk, HQ.out]
            exact hcl
          · exact HNK.out j (by omega))
        rw [clashB_f hcl] at HLL
        clear hcl
        go_wp2_with (fail)
        refine wp_region_ext (by kernel_rfl) (by kernel_rfl) ?_
        repeat (go_big_quiet_step ((go_at_call 34; exact ext_calls (HLL.out _))))
        refine wpQuiet_nil ?_
        rintro w8 ⟨⟨_, hb8⟩, rfl⟩
        have HB8 := Lib.hid (HBL.out.trans (hb8.mono HBL.out.size))
        clear hb8
        go_wp2_with (fail)
        go_roundw
        case rel => exact ⟨i + 1, by omega, by first | rfl | (push_cast; rfl) | go_num, HV.out, HB8.out⟩
        case measure => simp [intOf]; omega
    · have hine : n = i := by omega
      subst hine
      have hirr : ¬ (n : Int) < (n : Int) := by omega
      have HC : Hid (¬ clashL (allF l) pfs) := Lib.hid (by
        rintro ⟨f, hf, g, hg, e1, e2⟩
        obtain ⟨q, hq, hfq⟩ := mem_allF.1 hf
        obtain ⟨j, hj, rfl⟩ := List.mem_iff_getElem.1 hq
        refine HNK.out j (by rw [← HL.out]; exact hj) ⟨f, ?_, g, hg, e1, e2⟩
        rw [getP hj]
        exact hfq)
      by_cases h16 : n = 16
      · have HG : Hid (addG l ⟨pid, pfs, pA, pc⟩ = 3) := Lib.hid (by unfold addG; rw [if_neg HC.out, if_pos (by rw [HL.out]; exact h16)])
        subst h16
        go_wp2_with (fail)
        go_ret2
        exact ⟨_, by rw [HG.out] <;> rfl, fun _ => rfl, fun h => by rw [HG.out] at h; omega, HBW.out⟩
      · have HG : Hid (addG l ⟨pid, pfs, pA, pc⟩ = 0) := Lib.hid (by unfold addG; rw [if_neg HC.out, if_neg (by rw [HL.out]; exact h16)])
        have hne16 : ¬ (n : Int) = 16 := by omega
        have hneb : ((n : Int) == 16) = false := by simpa using hne16
        clear h16
        go_wp2_with ((at_builtin; refine Hid.out ?_))
        refine Lib.hid ?_
        have HB3 : Hid (Below wr.heap.size wr (wr.alloc (Obj.cells #[] 26))) := Lib.hid ((Below.refl wr.heap.size wr).alloc (Nat.le_refl _) _)
        have HO3 : Hid ((wr.alloc (Obj.cells #[] 26)).ownsRow wr.heap.size 26 2 (.slice (some ⟨wr.heap.size, 0, none⟩) 0 0) 0 (pcells [])) := Lib.hid (World.ownsRow_made (base := wr.heap.size) (e := 26) (size := 2) wr #[] 0 (Nat.le_refl _) (by decide) rfl)
        have hs3 : (wr.alloc (Obj.cells #[] 26)).heap.size = wr.heap.size + 1 := by simp
        have HA3 := Lib.hid (HA.out.below (HBW.out.trans (HB3.out.mono HBW.out.size)))
        generalize (wr.alloc (Obj.cells #[] 26)) = w3 at *
        refine wpList_append_p _ (by rfl) _ _ rfl wr.heap.size 0 _ [] rfl HO3.out (some ⟨b, off, none⟩) n c l HL.out rfl (fun ad had => rdP_at (by rw [← had]; exact HA3.out)) (fun h => ⟨HNO.out h, by
          rcases Nat.eq_zero_or_pos n with h0 | h0
          · exact h0
          · obtain ⟨_, _, e, _⟩ := HA.out.1 (by rw [HL.out]; exact h0)
            rw [h] at e
            cases e⟩) (by omega) (by omega) ?_
        intro v4 w4 hown4 hg4
        rw [Nat.zero_add, List.nil_append] at hown4
        have HO4 := Lib.hid hown4
        have HB4 : Hid (Below wr.heap.size wr w4) := Lib.hid (HB3.out.grown hg4 HB3.out.size (own_ge HO3.out))
        have hs4 := HB4.out.size
        have x0 := (HB4.out.cell (p := ⟨w.heap.size, 0, none⟩) hlw).trans x0
        have x1 := (HB4.out.cell (p := ⟨w.heap.size, 1, none⟩) hlw).trans x1
        have hlw4 : w.heap.size < w4.heap.size := by omega
        clear hown4 hg4
        go_wp2_with ((at_builtin; refine Hid.out ?_))
        refine Lib.hid ?_
        have HB5 : Hid (Below w4.heap.size w4 (w4.alloc (Obj.cells #[.int .u64 pid, .slice pA pfs.length pc] 26))) := Lib.hid ((Below.refl w4.heap.size w4).alloc (Nat.le_refl _) _)
        have HO5 := Lib.hid (own_new HO4.out HB5.out)
        have h2 := two_new w4 (.int .u64 pid) (.slice pA pfs.length pc) 26
        refine wpList_append_p _ (by rfl) _ _ rfl wr.heap.size n _ l rfl HO5.out (some ⟨w4.heap.size, 0, none⟩) 1 1 [⟨pid, pfs, pA, pc⟩] rfl rfl ?_ (fun h => by cases h) (by omega) (Nat.le_trans hs4 HB5.out.size) ?_
        · intro ad had j u hu
          cases had
          match j with
          | 0 =>
            have hu : some (Value.int .u64 pid) = some u := hu
            rw [← hu]
            exact h2.1
          | 1 =>
            have hu : some (Value.slice pA pfs.length pc) = some u := hu
            rw [← hu]
            exact h2.2
          | j + 2 => exact absurd hu (by simp [pcells])
        intro v6 w6 hown6 hg6
        have HB6 : Hid (Below wr.heap.size wr w6) := Lib.hid ((HB4.out.trans (HB5.out.mono hs4)).grown hg6 (Nat.le_trans hs4 HB5.out.size) (own_ge HO4.out))
        have HW6 := Lib.hid (HBW.out.trans (HB6.out.mono HBW.out.size))
        have hs6 := HW6.out.size
        have hR6 := own_rp hown6 (by rw [List.length_append, HL.out]; rfl) (fun q hq => by
          rcases List.mem_append.1 hq with h | h
          · exact ⟨((HA.out.2 q h).1.below HW6.out).more hs6 (Nat.le_refl _), (HA.out.2 q h).2⟩
          · rw [List.mem_singleton.1 h]
            exact ⟨(HPR.out.below HW6.out).more hs6 (Nat.le_refl _), HPC.out⟩)
        obtain ⟨A6, c6, rfl, hr6, hc6⟩ := hR6
        have HR6 := Lib.hid hr6
        clear hown6 hg6 h2 hr6
        go_wp2_with (fail)
        go_ret2
        exact ⟨_, by rw [HG.out] <;> rfl, fun h => absurd HG.out h, fun _ => ⟨A6, c6, rfl, HR6.out⟩, HW6.out⟩
end Go.Proofs.Ytmalcekbhnkfgaa
