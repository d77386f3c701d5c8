/- Contract of ref.Copy. Conditions: as each theorem states them. -/
import Derived.Test.YtmalcekbhnkfgaaE4
namespace Go.Proofs.Ytmalcekbhnkfgaa
open Go.RowKit Go.Maps Go.Shelf
set_option linter.unusedVariables false
set_option linter.unusedSimpArgs false

theorem own_ne {w : World} {B B' n m s s' : Nat} {e e' : TypeId} {v v' : Value} {xs ys : List Value} (h : w.ownsRow B e s v n xs) (k : w.ownsRow B' e' s' v' m ys) (he : e ≠ e') : ∀ g, v.ownBlock = some g → v'.ownBlock ≠ some g := by
  intro g hg hg'
  rcases h.2 with ⟨rfl, _⟩ | ⟨g1, c1, cur1, rfl, _, h1, _⟩
  · cases hg
  · rcases k.2 with ⟨rfl, _⟩ | ⟨g2, c2, cur2, rfl, _, h2, _⟩
    · cases hg'
    · cases hg
      cases hg'
      rw [h1] at h2
      simp only [Option.some.injEq, Obj.cells.injEq] at h2
      exact he h2.2.1
theorem own_rs {w : World} {B m c : Nat} {A : Option Addr} {fs : List Sh} (h : w.ownsRow B 36 4 (.slice A m c) m (scells fs)) (hm : fs.length = m) : RdS w w.heap.size A fs ∧ m ≤ c := by
  rcases own_form h with ⟨e, h0⟩ | ⟨g', c', e, hc, hB, hg⟩
  · simp only [Value.slice.injEq] at e
    exact ⟨fun hl => by omega, by omega⟩
  · simp only [Value.slice.injEq] at e
    obtain ⟨e1, _, e2⟩ := e
    refine ⟨fun hl => ⟨g', 0, e1, hg, Nat.le_refl _, fun i hi => ?_⟩, by rw [e2]; exact hc⟩
    rw [e1] at h
    obtain ⟨d0, d1, d2, d3⟩ := scells_get fs i hi
    rw [Nat.zero_add]
    exact ⟨(own_cell h _ _ d0).1, (own_cell h _ _ d1).1, (own_cell h _ _ d2).1, (own_cell h _ _ d3).1⟩
theorem own_slice {w : World} {B n sz : Nat} {e : TypeId} {v : Value} {xs : List Value} (h : w.ownsRow B e sz v n xs) : ∃ A c, v = .slice A n c := by
  rcases own_form h with ⟨rfl, h0⟩ | ⟨g, c, rfl, _⟩
  · exact ⟨none, 0, by rw [h0]⟩
  · exact ⟨_, c, rfl⟩
theorem step_append_s {ops : Array Oper} {o : Oper} {a : Act} {K : Act → World → Prop} {Q : Exit → Act → World → Prop} {E : Prop} (w : World) (hgd : o.guard = none) (s x : Operand)
    (ho : o.op = .call { callee := .builtin .append, args := #[s, x], argTypes := #[24, 24] }) (base n : Nat) (v : Value) (xs : List Sh) (hs : a.eval s = v) (hown : w.ownsRow base 36 4 v n (scells xs))
    (A : Option Addr) (m c B : Nat) (l : List Sh) (hm : l.length = m) (hx : a.eval x = .slice A m c) (hr : RdS w B A l) (hnone : A = none → c = 0 ∧ m = 0) (hn : n + m ≤ 1000001) (hbase : base ≤ w.heap.size)
    (h : ∀ v' w', w'.ownsRow base 36 4 v' (n + m) (scells (xs ++ l)) → w.grownBy w' v.ownBlock → K (a.put o.dst v') w') :
    if Region.wanted o (yielded ops a.tmps) = true then Oper.wp Try.prog o a w K Q else E := by
  have hw : Region.wanted o (yielded ops a.tmps) = true := by simp [Region.wanted, hgd]
  rw [if_pos hw]
  obtain ⟨i0, hi, hz0, hz1, hz2⟩ := info_parts i36
  subst hm
  by_cases hl : l = [] ∧ A = none
  · obtain ⟨rfl, rfl⟩ := hl
    obtain ⟨rfl, _⟩ := hnone rfl
    have hrun := run_append_owned_none (P := Try.prog) (w := w) base 24 o.type 36 i0 4 und24' hi v n (scells xs) hown
    unfold Oper.wp
    simp [execOp, ho, resolve, invoke, builtin, hs, hx, hrun, Result.andThen]
    exact h v w (by simpa using hown) ⟨rfl, rfl, rfl, Nat.le_refl _, fun _ _ _ => rfl⟩
  · obtain ⟨ad, rfl⟩ : ∃ ad, A = some ad := by
      cases A with
      | some ad => exact ⟨ad, rfl⟩
      | none =>
        exfalso
        have := (hnone rfl).2
        exact hl ⟨List.length_eq_zero_iff.1 this, rfl⟩
    have hnews : ∀ j u, (scells l)[j]? = some u → w.cell? (ad.add j) = some u := by
      intro j u hu
      have hj : j < (scells l).length := (List.getElem?_eq_some_iff.1 hu).1
      rw [scells_length] at hj
      obtain ⟨b, off, e, _⟩ := hr (by omega)
      cases e
      exact rdS_cells hr j u hu
    exact wp_append_own w s x 24 ho base 36 i0 (.agg #[.int .u64 0, .int .i64 0, .int .u32 0, .int .u64 0]) 4 32 und24' hi hz0 hz1 hz2 rfl (by decide) v n (scells xs) hs hown ad l.length c (scells l) hx (scells_length l) hnews (scells_one l) (by unfold maxLen; omega) (by omega) hbase (fun v' w' h1 h2 _ => h v' w' (by rw [scells_append]; exact h1) h2)
/-- No nil slice of files has room. -/
def okA (l : List Pt) : Prop := ∀ p ∈ l, p.A = none → p.c = 0
/-- What Copy answers. -/
def CopyR (w : World) (l : List Pt) (n : Nat) (e : Ending) (w' : World) : Prop :=
  ∃ g c' L, e = .returned (.slice (some ⟨g, 0, none⟩) n c') ∧ n + 1 ≤ c' ∧ sameP L l ∧ w.heap.size ≤ g ∧ g < w'.heap.size ∧ RdP w' w'.heap.size (some ⟨g, 0, none⟩) L ∧ w'.cell? ⟨g, n * 2, none⟩ = some (.int .u64 77) ∧ Below w.heap.size w w'
set_option maxRecDepth 100000 in
set_option maxHeartbeats 4000000 in
theorem copy_len (A : Option Addr) (n c : Nat) (l : List Pt) (w : World) (hl : l.length = n) (hA : RdP w w.heap.size A l) (hn : n ≤ 100000) (hf : ∀ p ∈ l, p.fs.length ≤ 100000) (ho : okA l) :
    Calls Try.prog 12 #[.slice A n c] w (CopyR w l n) := by
  have HA := Lib.hid hA
  have HLN := Lib.hid hl
  have HF := Lib.hid hf
  have HO := Lib.hid ho
  clear hA hl hf ho
  go_enter Try.func12, Try.ntmps12
  go_wp2_with (fail)
  go_loopw [3, 4] (fun vo vi wr => ∃ (i : Nat) (L : List Pt), i ≤ n ∧ vi = .int .i64 i ∧ L.length = i ∧ wr.ownsRow w.heap.size 26 2 vo i (pcells L) ∧ (∀ j, j < i → (L.getD j zeroP).id = (l.getD j zeroP).id ∧ (L.getD j zeroP).fs = (l.getD j zeroP).fs) ∧
    (∀ p ∈ L, wr.ownsRow w.heap.size 36 4 (.slice p.A p.fs.length p.c) p.fs.length (scells p.fs)) ∧ Below w.heap.size w wr) (fun _ i _ => n - (intOf i).toNat)
  case atStart => exact ⟨0, [], Nat.zero_le _, rfl, rfl, own_none _ _ _ _, fun j hj => by omega, by simp, Below.refl _ _⟩
  case round =>
    obtain ⟨i, L, hin, rfl, hLi, hown, hid, hfi, hbl⟩ := hrel
    have HLI := Lib.hid hLi
    have HOW := Lib.hid hown
    have HID := Lib.hid hid
    have HFI := Lib.hid hfi
    have HBL := Lib.hid hbl
    have hws := hbl.size
    clear hLi hown hid hfi hbl
    by_cases hi : i < n
    · have hi0 : (0 : Int) ≤ (i : Int) := by omega
      have hi1 : (i : Int) < (n : Int) := by omega
      obtain ⟨b, off, rfl, hb, _, hc⟩ := HA.out.1 (by rw [HLN.out]; omega)
      obtain ⟨a0, a1⟩ := hc i (by rw [HLN.out]; exact hi)
      have hpm : l.getD i zeroP ∈ l := getP_mem (by rw [HLN.out]; exact hi)
      have hps := (HA.out.2 _ hpm).1
      have hpf := HF.out _ hpm
      have hpo := HO.out _ hpm
      obtain ⟨p, hp⟩ : ∃ p, l.getD i zeroP = p := ⟨_, rfl⟩
      rw [hp] at a0 a1 hps hpf hpo
      have HP := Lib.hid hp
      have A0W := Lib.hid a0
      have A1W := Lib.hid a1
      have a0 := (HBL.out.cell (p := ⟨b, off + i * 2, none⟩) hb).trans a0
      have a1 := (HBL.out.cell (p := ⟨b, off + i * 2 + 1, none⟩) hb).trans a1
      have hbw : b < wr.heap.size := by omega
      obtain ⟨pid, pfs, PA, pc⟩ := p
      dsimp only at *
      have HPS := Lib.hid (hps.below HBL.out)
      have hpn : PA = none → pc = 0 ∧ pfs.length = 0 := fun h => ⟨hpo h, by
        rcases Nat.eq_zero_or_pos pfs.length with h0 | h0
        · exact h0
        · obtain ⟨_, _, e, _⟩ := hps h0
          rw [h] at e
          cases e⟩
      have HPN := Lib.hid hpn
      obtain ⟨m, hm⟩ : ∃ m, pfs.length = m := ⟨_, rfl⟩
      rw [hm] at a1 hpf HPN A1W
      have HM := Lib.hid hm
      have C2 : ∀ z, Below wr.heap.size wr z → z.cell? ⟨b, off + i * 2, none⟩ = some (.int .u64 pid) ∧ z.cell? ⟨b, off + i * 2 + 1, none⟩ = some (.slice PA m pc) := fun z hz => ⟨(hz.cell hbw).trans a0, (hz.cell hbw).trans a1⟩
      have HBP : Hid (Below wr.heap.size wr (wr.alloc (Obj.cells #[] 36)).drew) := Lib.hid ((Below.refl wr.heap.size wr).alloc (Nat.le_refl _) _).drew
      have HO0 : Hid ((wr.alloc (Obj.cells #[] 36)).drew.ownsRow wr.heap.size 36 4 (.slice (some ⟨wr.heap.size, 0, none⟩) 0 0) 0 (scells [])) := Lib.hid (World.ownsRow_made (base := wr.heap.size) (e := 36) (size := 4) wr #[] 0 (Nat.le_refl _) (by decide) rfl).drew
      have hm0 : 0 + m ≤ 1000001 := by omega
      have hn0 : i + 1 ≤ 1000001 := by omega
      clear hc hpm hp hps hpo hpn hm
      go_wp2_with (fail)
      go_region_held3 (fun z => z.cell? ⟨b, off + i * 2, none⟩ = some (.int .u64 pid) ∧ z.cell? ⟨b, off + i * 2 + 1, none⟩ = some (.slice PA m pc)) (first | exact ⟨a0, a1⟩ | exact C2 _ HBP.out | exact ⟨(HB5.out.cell (p := ⟨b, off + i * 2, none⟩) hb).trans A0W.out, (HB5.out.cell (p := ⟨b, off + i * 2 + 1, none⟩) hb).trans A1W.out⟩ | exact C2 _ HB4.out | exact C2 _ HB3.out | exact C2 _ (Below.refl _ _).drew)
        (first
        | (refine step_append_s _ rfl _ _ rfl wr.heap.size 0 _ [] rfl HO0.out PA m pc w.heap.size pfs HM.out rfl (HPS.out.below (HBP.out.mono hws)) HPN.out hm0 HBP.out.size ?_; intro v3 w3 hown3 hg3; obtain ⟨A3, c3, rfl⟩ := own_slice hown3; rw [Nat.zero_add, List.nil_append] at hown3; rw [Nat.zero_add]; have HO3 := Lib.hid hown3; have HB3 : Hid (Below wr.heap.size wr w3) := Lib.hid (HBP.out.grown hg3 HBP.out.size (fun g hg => by cases hg; exact Nat.le_refl _)); have HOW3 := Lib.hid (own_new HOW.out HB3.out); have HB4 : Hid (Below wr.heap.size wr (w3.alloc (Obj.cells #[.int .u64 pid, .slice A3 m c3] 26))) := Lib.hid (HB3.out.alloc HB3.out.size _); have HOW4 := Lib.hid (own_new HOW.out HB4.out); clear hown3 hg3)
        | (refine step_append_p _ rfl _ _ rfl w.heap.size i _ L rfl HOW4.out ⟨w3.heap.size, 0, none⟩ 1 ⟨pid, pfs, A3, c3⟩ rfl (by dsimp only; rw [HM.out]; exact two_new _ _ _ _) hn0 (Nat.le_trans hws HB4.out.size) ?_; intro v5 w5 hown5 hg5; have HO5 := Lib.hid hown5; have HB5 : Hid (Below w.heap.size w w5) := Lib.hid ((HBL.out.trans (HB4.out.mono hws)).grown hg5 (Nat.le_trans hws HB4.out.size) (own_ge HOW.out)); have HG5 := Lib.hid hg5; clear hown5 hg5))
      have K5 : ∀ {q : Pt}, (w3.alloc (Obj.cells #[.int .u64 pid, .slice A3 m c3] 26)).ownsRow w.heap.size 36 4 (.slice q.A q.fs.length q.c) q.fs.length (scells q.fs) → w5.ownsRow w.heap.size 36 4 (.slice q.A q.fs.length q.c) q.fs.length (scells q.fs) := fun {q} h =>
        own_kw (S := fun b => u3.ownBlock = some b) h ((Kw.refl _ _).grown HG5.out (fun k hk => hk)) (fun b hb hS => own_ne HOW4.out h (by decide) b hS hb)
      have HF5 : Hid (∀ q ∈ L ++ [(⟨pid, pfs, A3, c3⟩ : Pt)], w5.ownsRow w.heap.size 36 4 (.slice q.A q.fs.length q.c) q.fs.length (scells q.fs)) := Lib.hid (fun q hq => by
        rcases List.mem_append.1 hq with h | h
        · exact K5 (own_new (HFI.out q h) HB4.out)
        · rw [List.mem_singleton.1 h]
          refine K5 (q := ⟨pid, pfs, A3, c3⟩) ?_
          dsimp only
          rw [HM.out]
          exact (own_le HO3.out hws).alloc _)
      have HI5 : Hid (∀ j, j < i + 1 → ((L ++ [(⟨pid, pfs, A3, c3⟩ : Pt)]).getD j zeroP).id = (l.getD j zeroP).id ∧ ((L ++ [(⟨pid, pfs, A3, c3⟩ : Pt)]).getD j zeroP).fs = (l.getD j zeroP).fs) := Lib.hid (fun j hj => by
        by_cases hji : j = i
        · rw [hji, HP.out, getP (by rw [List.length_append, HLI.out]; simp), List.getElem_append_right (by rw [HLI.out]; exact Nat.le_refl _)]
          simp [HLI.out]
        · have hjl : j < L.length := by rw [HLI.out]; omega
          rw [getP (by rw [List.length_append]; omega), List.getElem_append_left hjl, ← getP hjl]
          exact HID.out j (by omega))
      have HL5 : Hid ((L ++ [(⟨pid, pfs, A3, c3⟩ : Pt)]).length = i + 1) := Lib.hid (by rw [List.length_append, HLI.out]; rfl)
      clear K5
      go_wp2_with (fail)
      go_roundw
      case rel => exact ⟨i + 1, _, by omega, by first | rfl | (push_cast; rfl) | go_num, HL5.out, HO5.out, HI5.out, HF5.out, HB5.out⟩
      case measure => simp [intOf]; omega
    · have hine : n = i := by omega
      subst hine
      have hirr : ¬ (n : Int) < (n : Int) := by omega
      go_wp2_with ((at_builtin; refine Hid.out ?_))
      refine Lib.hid ?_
      have HB4 : Hid (Below wr.heap.size wr (wr.alloc (Obj.cells #[.int .u64 77, .slice none 0 0] 26))) := Lib.hid ((Below.refl wr.heap.size wr).alloc (Nat.le_refl _) _)
      have HOW4 := Lib.hid (own_new HOW.out HB4.out)
      refine wpList_append_p _ (by rfl) _ _ rfl w.heap.size n _ L rfl HOW4.out (some ⟨wr.heap.size, 0, none⟩) 1 1 [⟨77, [], none, 0⟩] rfl rfl ?_ (fun h => by cases h) (by omega) (Nat.le_trans hws HB4.out.size) ?_
      · intro ad had j u hu
        cases had
        have h2 := two_new wr (.int .u64 77) (.slice none 0 0) 26
        match j with
        | 0 =>
          have hu : some (Value.int .u64 77) = some u := hu
          rw [← hu]
          exact h2.1
        | 1 =>
          have hu : some (Value.slice none 0 0) = some u := hu
          rw [← hu]
          exact h2.2
        | j + 2 => exact absurd hu (by simp [pcells])
      intro v5 w5 hown5 hg5
      have HB5 : Hid (Below w.heap.size w w5) := Lib.hid ((HBL.out.trans (HB4.out.mono hws)).grown hg5 (Nat.le_trans hws HB4.out.size) (own_ge HOW.out))
      have K5 : ∀ q ∈ L, w5.ownsRow w.heap.size 36 4 (.slice q.A q.fs.length q.c) q.fs.length (scells q.fs) := fun q hq => by
        have h := own_new (HFI.out q hq) HB4.out
        exact own_kw (S := fun b => u3.ownBlock = some b) h ((Kw.refl _ _).grown hg5 (fun k hk => hk)) (fun b hb hS => own_ne HOW4.out h (by decide) b hS hb)
      have HK5 := Lib.hid K5
      have HO5 := Lib.hid hown5
      obtain ⟨g, c5, rfl, hc5, hBg, hg⟩ : ∃ g c5, v5 = .slice (some ⟨g, 0, none⟩) (n + 1) c5 ∧ n + 1 ≤ c5 ∧ w.heap.size ≤ g ∧ g < w5.heap.size := by
        rcases own_form hown5 with ⟨_, h0⟩ | ⟨g, c5, e, h1, h2, h3⟩
        · omega
        · exact ⟨g, c5, e, h1, h2, h3⟩
      clear hown5 hg5 K5
      go_wp2_with (fail)
      have hg1 : ∀ j, j < n → (L ++ [(⟨77, [], none, 0⟩ : Pt)]).getD j zeroP = L.getD j zeroP := fun j hj => by
        have hjl : j < L.length := by rw [HLI.out]; exact hj
        rw [getP (by rw [List.length_append]; omega), List.getElem_append_left hjl, ← getP hjl]
      have hg2 : (L ++ [(⟨77, [], none, 0⟩ : Pt)]).getD n zeroP = ⟨77, [], none, 0⟩ := by
        rw [getP (by rw [List.length_append, HLI.out]; simp), List.getElem_append_right (by rw [HLI.out]; exact Nat.le_refl _)]
        simp [HLI.out]
      have hll : (L ++ [(⟨77, [], none, 0⟩ : Pt)]).length = n + 1 := by rw [List.length_append, HLI.out]; rfl
      have hsame : sameP L l := ⟨by rw [HLI.out, HLN.out], fun j hj => HID.out j (by rw [← HLN.out]; exact hj)⟩
      have hrd : RdP w5 w5.heap.size (some ⟨g, 0, none⟩) L := by
        refine ⟨fun _ => ⟨g, 0, rfl, hg, Nat.le_refl _, fun j hj => ?_⟩, fun q hq => own_rs (HK5.out q hq) rfl⟩
        rw [HLI.out] at hj
        obtain ⟨d0, d1⟩ := pcells_get (L ++ [(⟨77, [], none, 0⟩ : Pt)]) j (by rw [hll]; omega)
        rw [hg1 j hj] at d0 d1
        rw [Nat.zero_add]
        exact ⟨(own_cell HO5.out _ _ d0).1, (own_cell HO5.out _ _ d1).1⟩
      have hmark : w5.cell? ⟨g, n * 2, none⟩ = some (.int .u64 77) := by
        obtain ⟨d0, _⟩ := pcells_get (L ++ [(⟨77, [], none, 0⟩ : Pt)]) n (by rw [hll]; omega)
        rw [hg2] at d0
        exact (own_cell HO5.out _ _ d0).1
      go_ret
      exact ⟨g, c5, L, rfl, hc5, hsame, hBg, hg, hrd, hmark, HB5.out⟩
end Go.Proofs.Ytmalcekbhnkfgaa
