/- Contract of shares.may. Conditions: as each theorem states them. -/
import Derived.Test.YtmalcekbhnkfgaaA0
namespace Go.Proofs.Ytmalcekbhnkfgaa
open Go.RowKit Go.Maps
set_option linter.unusedVariables false
set_option linter.unusedSimpArgs false

def okN (n : Int) : Prop := 1 ≤ n ∧ n ≤ 99999999
instance (n : Int) : Decidable (okN n) := by unfold okN; infer_instance
theorem numbered_any (n : Int) (w : World) : Calls Try.prog 43 #[.int .u64 n] w fun e w' => e = .returned (.bool (decide (okN n))) ∧ w = w' := by
  by_cases h1 : 1 ≤ n
  · by_cases h2 : n ≤ 99999999
    · have hd : decide (okN n) = true := decide_eq_true ⟨h1, h2⟩
      rw [hd]
      clear hd
      go_enter Try.func43, Try.ntmps43
      go_wp2
      go_ret
      first | exact ⟨rfl, rfl⟩ | simp_all
    · have hd : decide (okN n) = false := decide_eq_false (fun h => h2 h.2)
      rw [hd]
      clear hd
      go_enter Try.func43, Try.ntmps43
      go_wp2
      go_ret
      first | exact ⟨rfl, rfl⟩ | simp_all
  · have hd : decide (okN n) = false := decide_eq_false (fun h => h1 h.1)
    rw [hd]
    clear hd
    go_enter Try.func43, Try.ntmps43
    go_wp2
    go_ret
    first | exact ⟨rfl, rfl⟩ | simp_all
def okF (f : Sh) : Prop := okN f.tb ∧ okN f.nm ∧ 1 ≤ f.sz ∧ f.sz ≤ 262144
def okFs (l : List Sh) : Prop := (∀ f ∈ l, okF f) ∧ (l.map Sh.tb).Nodup ∧ (l.map Sh.nm).Nodup
def mayP (p : Pt) : Prop := okN p.id ∧ p.fs.length ≤ 256 ∧ okFs p.fs
open Classical in
noncomputable def filesB (l : List Sh) : Bool := decide (okFs l)
theorem filesB_t {l : List Sh} (h : okFs l) : filesB l = true := by simp [filesB, h]
theorem filesB_f {l : List Sh} (h : ¬ okFs l) : filesB l = false := by simp [filesB, h]
theorem okFs.nil : okFs [] := ⟨by simp, by simp, by simp⟩
theorem okFs_snoc {l : List Sh} {f : Sh} : okFs (l ++ [f]) ↔ okFs l ∧ okF f ∧ f.tb ∉ l.map Sh.tb ∧ f.nm ∉ l.map Sh.nm := by
  unfold okFs
  simp only [List.mem_append, List.mem_singleton, List.map_append, List.map_cons, List.map_nil, List.nodup_append, List.nodup_cons, List.not_mem_nil, not_false_eq_true, List.nodup_nil, and_self, true_and]
  constructor
  · rintro ⟨h1, ⟨h2, h3⟩, h4, h5⟩
    refine ⟨⟨fun g hg => h1 g (.inl hg), h2, h4⟩, h1 f (.inr rfl), fun hm => ?_, fun hm => ?_⟩
    · exact h3 _ hm _ rfl rfl
    · exact h5 _ hm _ rfl rfl
  · rintro ⟨⟨h1, h2, h4⟩, h6, h3, h5⟩
    refine ⟨fun g hg => hg.elim (h1 g) (fun e => e ▸ h6), ⟨h2, ?_⟩, h4, ?_⟩
    · rintro a ha b rfl rfl
      exact h3 ha
    · rintro a ha b rfl rfl
      exact h5 ha
theorem take_snocS {l : List Sh} {i : Nat} (h : i < l.length) : l.take (i + 1) = l.take i ++ [l.getD i zeroS] := by
  rw [getS h, List.take_succ_eq_append_getElem h]
theorem okFs.take {l : List Sh} (h : okFs l) (k : Nat) : okFs (l.take k) := by
  obtain ⟨h1, h2, h3⟩ := h
  refine ⟨fun f hf => h1 f (List.mem_of_mem_take hf), ?_, ?_⟩
  · rw [List.map_take]
    exact h2.sublist (List.take_sublist _ _)
  · rw [List.map_take]
    exact h3.sublist (List.take_sublist _ _)
theorem count_pos_iff (L : List Int) (x : Int) : x ∈ L ↔ (1 : Int) < (L.count x : Nat) + 1 := by
  rw [← List.count_pos_iff]
  omega
set_option maxRecDepth 100000 in
set_option maxHeartbeats 4000000 in
theorem may_loop (id : Int) (A : Option Addr) (n c : Nat) (l : List Sh) (w : World) (hl : l.length = n) (hid : okN id) (hn : n ≤ 256) (hA : RdS w w.heap.size A l) :
    Calls Try.prog 29 #[.agg #[.int .u64 id, .slice A n c]] w fun e w' => e = .returned (.bool (filesB l)) ∧ Below w.heap.size w w' := by
  have HLN := Lib.hid hl
  have HA := Lib.hid hA
  have HN := Lib.hid hn
  have hni : ¬ (256 : Int) < (n : Int) := by omega
  have hdi : decide (okN id) = true := decide_eq_true hid
  clear hl hA hid
  have hmm := @run_makeMap Try.prog
  go_enter Try.func29, Try.ntmps29
  go_wp2_with (go_at_call 43; refine (numbered_any _ _).mono ?_; rintro e w' ⟨rfl, rfl⟩)
  have hb0 : Below w.heap.size w (((w.alloc (Obj.cells #[Value.int IntKind.u64 id, Value.slice A n c] 26)).alloc (Obj.map #[] 0)).alloc (Obj.map #[] 0)) := bl_alloc (bl_alloc (bl_alloc (Below.refl _ _) _) _) _
  have c1 : CntAt (((w.alloc (Obj.cells #[Value.int IntKind.u64 id, Value.slice A n c] 26)).alloc (Obj.map #[] 0)).alloc (Obj.map #[] 0)) (w.heap.size + 1) [] := by
    have h := (CntAt.made (w.alloc (Obj.cells #[Value.int IntKind.u64 id, Value.slice A n c] 26))).below (Below.alloc (Below.refl _ _) (Nat.le_refl _) (Obj.map #[] 0)) (by simp)
    simpa using h
  have c2 : CntAt (((w.alloc (Obj.cells #[Value.int IntKind.u64 id, Value.slice A n c] 26)).alloc (Obj.map #[] 0)).alloc (Obj.map #[] 0)) (w.heap.size + 1 + 1) [] := by
    have h := CntAt.made ((w.alloc (Obj.cells #[Value.int IntKind.u64 id, Value.slice A n c] 26)).alloc (Obj.map #[] 0))
    simpa using h
  generalize (((w.alloc (Obj.cells #[Value.int IntKind.u64 id, Value.slice A n c] 26)).alloc (Obj.map #[] 0)).alloc (Obj.map #[] 0)) = w0 at *
  have HB0 := Lib.hid hb0
  have C1 := Lib.hid c1
  have C2 := Lib.hid c2
  clear hb0 c1 c2
  go_loopw [22] (fun vi wr => ∃ i : Nat, i ≤ n ∧ vi = .int .i64 i ∧ okFs (l.take i) ∧ CntAt wr (w.heap.size + 1) ((l.take i).map Sh.tb).reverse ∧ CntAt wr (w.heap.size + 1 + 1) ((l.take i).map Sh.nm).reverse ∧ Below w.heap.size w wr) (fun i _ => n - (intOf i).toNat)
  case atStart => exact ⟨0, Nat.zero_le _, rfl, by simpa using okFs.nil, by simpa using C1.out, by simpa using C2.out, HB0.out⟩
  case round =>
    obtain ⟨i, hin, rfl, hok, hc1, hc2, hbl⟩ := hrel
    have HOK := Lib.hid hok
    have HC1 := Lib.hid hc1
    have HC2 := Lib.hid hc2
    have HBL := Lib.hid hbl
    have hws := hbl.size
    have hm1 := hc1.lt
    have hm2 := hc2.lt
    by_cases hi : i < n
    · have hi0 : (0 : Int) ≤ (i : Int) := by omega
      have hi1 : (i : Int) < (n : Int) := by omega
      obtain ⟨b, off, rfl, hb, _, hc⟩ := HA.out (by rw [HLN.out]; omega)
      obtain ⟨a0, a1, a2, a3⟩ := hc i (by rw [HLN.out]; exact hi)
      obtain ⟨f, hf⟩ : ∃ f, l.getD i zeroS = f := ⟨_, rfl⟩
      have hsn : l.take (i + 1) = l.take i ++ [f] := by rw [← hf]; exact take_snocS (by rw [HLN.out]; exact hi)
      have hfm : f ∈ l := by rw [← hf]; exact getS_mem (by rw [HLN.out]; exact hi)
      have hlen : (l.take i).length = i := by rw [List.length_take, HLN.out]; omega
      rw [hf] at a0 a1 a2 a3
      have a0 := (hbl.cell (p := ⟨b, off + i * 4, none⟩) hb).trans a0
      have a1 := (hbl.cell (p := ⟨b, off + i * 4 + 1, none⟩) hb).trans a1
      have a2 := (hbl.cell (p := ⟨b, off + i * 4 + 2, none⟩) hb).trans a2
      have a3 := (hbl.cell (p := ⟨b, off + i * 4 + 3, none⟩) hb).trans a3
      have hbw : b < wr.heap.size := by omega
      have HSN := Lib.hid hsn
      have HFM := Lib.hid hfm
      have hL1 : ((l.take i).map Sh.tb).reverse.length = i := by rw [List.length_reverse, List.length_map, hlen]
      have hL2 : ((l.take i).map Sh.nm).reverse.length = i := by rw [List.length_reverse, List.length_map, hlen]
      have hM1 : f.tb ∈ (l.take i).map Sh.tb ↔ (1 : Int) < ((((l.take i).map Sh.tb).reverse.count f.tb : Nat) : Int) + 1 := by rw [← count_pos_iff]; simp
      have hM2 : f.nm ∈ (l.take i).map Sh.nm ↔ (1 : Int) < ((((l.take i).map Sh.nm).reverse.count f.nm : Nat) : Int) + 1 := by rw [← count_pos_iff]; simp
      have hk1 : ((l.take i).map Sh.tb).reverse.count f.tb ≤ i := by have := List.count_le_length (a := f.tb) (l := ((l.take i).map Sh.tb).reverse); omega
      have hk2 : ((l.take i).map Sh.nm).reverse.count f.nm ≤ i := by have := List.count_le_length (a := f.nm) (l := ((l.take i).map Sh.nm).reverse); omega
      obtain ⟨q1, hq1⟩ : ∃ q, ((l.take i).map Sh.tb).reverse.count f.tb = q := ⟨_, rfl⟩
      obtain ⟨q2, hq2⟩ : ∃ q, ((l.take i).map Sh.nm).reverse.count f.nm = q := ⟨_, rfl⟩
      rw [hq1] at hM1 hk1
      rw [hq2] at hM2 hk2
      have HM1 := Lib.hid hM1
      have HM2 := Lib.hid hM2
      have HQ1 := Lib.hid hq1
      have HQ2 := Lib.hid hq2
      have hq10 : (0 : Int) ≤ (q1 : Int) := by omega
      have hq20 : (0 : Int) ≤ (q2 : Int) := by omega
      have hq11 : (q1 : Int) ≤ 256 := by omega
      have hq21 : (q2 : Int) ≤ 256 := by omega
      have HL1 := Lib.hid hL1
      have HL2 := Lib.hid hL2
      clear hc hf hsn hfm hM1 hM2 hq1 hq2 hL1 hL2 hok hc1 hc2 hbl
      obtain ⟨ftb, fsz, fsm, fnm, wt, wsz, wsm, wn⟩ := f
      dsimp only at *
      go_wp2_with ((at_lookup; refine Hid.out ?_))
      refine Lib.hid ?_
      have hbA : Below wr.heap.size wr (wr.alloc (Obj.cells #[.int .u64 ftb, .int .i64 fsz, .int .u32 fsm, .int .u64 fnm] 36)) := bl_alloc (Below.refl _ _) _
      have x0 : (wr.alloc (Obj.cells #[.int .u64 ftb, .int .i64 fsz, .int .u32 fsm, .int .u64 fnm] 36)).cell? ⟨wr.heap.size, 0, none⟩ = some (.int .u64 ftb) := by go_keep
      have x1 : (wr.alloc (Obj.cells #[.int .u64 ftb, .int .i64 fsz, .int .u32 fsm, .int .u64 fnm] 36)).cell? ⟨wr.heap.size, 1, none⟩ = some (.int .i64 fsz) := by go_keep
      have x3 : (wr.alloc (Obj.cells #[.int .u64 ftb, .int .i64 fsz, .int .u32 fsm, .int .u64 fnm] 36)).cell? ⟨wr.heap.size, 3, none⟩ = some (.int .u64 fnm) := by go_keep
      have hl0 : wr.heap.size < (wr.alloc (Obj.cells #[.int .u64 ftb, .int .i64 fsz, .int .u32 fsm, .int .u64 fnm] 36)).heap.size := by simp
      generalize (wr.alloc (Obj.cells #[.int .u64 ftb, .int .i64 fsz, .int .u32 fsm, .int .u64 fnm] 36)) = w1 at *
      have D1 := Lib.hid (HC1.out.below hbA hm1)
      have D2 := Lib.hid (HC2.out.below hbA hm2)
      have HB1 := Lib.hid (HBL.out.trans (hbA.mono hws))
      have hs1 := hbA.size
      clear hbA
      refine wpList_look_cnt _ (by rfl) _ _ rfl (w.heap.size + 1) _ D1.out rfl ftb wt rfl ?_
      rw [HQ1.out]
      go_wp2_with ((at_mapUpdate; refine Hid.out ?_))
      refine Lib.hid ?_
      refine wpList_bump_cnt _ (by rfl) _ _ _ rfl (w.heap.size + 1) _ D1.out rfl ftb wt rfl (by rw [HQ1.out]; rfl) (by rw [HL1.out]; omega) ?_
      intro w2 e1 g1
      have K1 : Kw (fun b => b = w.heap.size + 1) w1 w2 := (Kw.refl _ _).grown g1 (fun k hk => by cases hk; rfl)
      have x0 := (K1.cell hl0 (by omega)).trans x0
      have x1 := (K1.cell hl0 (by omega)).trans x1
      have x3 := (K1.cell hl0 (by omega)).trans x3
      have D2 := Lib.hid (D2.out.kw K1 (by omega))
      have HB2 := Lib.hid (HB1.out.trans (K1.below (B := w.heap.size) (by omega) (fun b hb => by omega)))
      have E1 := Lib.hid e1
      have hs2 := K1.size
      have hl2 : wr.heap.size < w2.heap.size := by omega
      clear e1 g1 K1
      go_wp2_with ((at_lookup; refine Hid.out ?_))
      refine Lib.hid ?_
      refine wpList_look_cnt _ (by rfl) _ _ rfl (w.heap.size + 1 + 1) _ D2.out rfl fnm wn rfl ?_
      rw [HQ2.out]
      go_wp2_with ((at_mapUpdate; refine Hid.out ?_))
      refine Lib.hid ?_
      refine wpList_bump_cnt _ (by rfl) _ _ _ rfl (w.heap.size + 1 + 1) _ D2.out rfl fnm wn rfl (by rw [HQ2.out]; rfl) (by rw [HL2.out]; omega) ?_
      intro w3 e2 g2
      have K2 : Kw (fun b => b = w.heap.size + 1 + 1) w2 w3 := (Kw.refl _ _).grown g2 (fun k hk => by cases hk; rfl)
      have x0 := (K2.cell hl2 (by omega)).trans x0
      have x1 := (K2.cell hl2 (by omega)).trans x1
      have x3 := (K2.cell hl2 (by omega)).trans x3
      have E1 := Lib.hid (E1.out.kw K2 (by omega))
      have HB3 := Lib.hid (HB2.out.trans (K2.below (B := w.heap.size) (by omega) (fun b hb => by omega)))
      have E2 := Lib.hid e2
      have hs3 := K2.size
      have hl3 : wr.heap.size < w3.heap.size := by omega
      have HR1 : Hid ((ftb :: ((l.take i).map Sh.tb).reverse).count ftb = q1 + 1) := Lib.hid (by rw [List.count_cons_self, HQ1.out])
      have HR2 : Hid ((fnm :: ((l.take i).map Sh.nm).reverse).count fnm = q2 + 1) := Lib.hid (by rw [List.count_cons_self, HQ2.out])
      clear e2 g2 K2
      by_cases h1 : okN ftb
      · have hd1 : decide (okN ftb) = true := decide_eq_true h1
        by_cases h2 : okN fnm
        · have hd2 : decide (okN fnm) = true := decide_eq_true h2
          by_cases h3 : fsz < 1
          · have HU : Hid (filesB l = false) := Lib.hid (filesB_f (fun h => by
              have h' := h.take (i + 1)
              rw [HSN.out, okFs_snoc] at h'
              have := h'.2.1.2.2.1; dsimp only at this; omega))
            clear h1 h2
            go_wp2_with (go_at_call 43; refine (numbered_any _ _).mono ?_; rintro e w' ⟨rfl, rfl⟩)
            go_ret
            exact ⟨by rw [HU.out]; rfl, HB3.out⟩
          · have h3' : 1 ≤ fsz := by omega
            have hde3 : decide (fsz < 1) = false := decide_eq_false h3
            by_cases h4 : 262144 < fsz
            · have HU : Hid (filesB l = false) := Lib.hid (filesB_f (fun h => by
                have h' := h.take (i + 1)
                rw [HSN.out, okFs_snoc] at h'
                have := h'.2.1.2.2.2; dsimp only at this; omega))
              clear h1 h2
              have hde4 : decide (262144 < fsz) = true := decide_eq_true h4
              go_wp2_with (go_at_call 43; refine (numbered_any _ _).mono ?_; rintro e w' ⟨rfl, rfl⟩)
              go_ret
              exact ⟨by rw [HU.out]; rfl, HB3.out⟩
            · have h4' : fsz ≤ 262144 := by omega
              have hde4 : decide (262144 < fsz) = false := decide_eq_false h4
              by_cases h5 : (1 : Int) < (q1 : Int) + 1
              · have HU : Hid (filesB l = false) := Lib.hid (filesB_f (fun h => by
                  have h' := h.take (i + 1)
                  rw [HSN.out, okFs_snoc] at h'
                  exact h'.2.2.1 (HM1.out.2 h5)))
                clear h1 h2
                have hde5 : decide ((1 : Int) < (q1 : Int) + 1) = true := decide_eq_true h5
                go_wp2_with (first | (go_at_call 43; refine (numbered_any _ _).mono ?_; rintro e w' ⟨rfl, rfl⟩) | (at_lookup; refine Hid.out ?_))
                refine Lib.hid ?_
                refine wpList_look_cnt _ (by rfl) _ _ rfl (w.heap.size + 1) _ E1.out rfl ftb wt rfl ?_
                rw [HR1.out]
                go_wp2_with (go_at_call 43; refine (numbered_any _ _).mono ?_; rintro e w' ⟨rfl, rfl⟩)
                go_ret
                exact ⟨by rw [HU.out]; rfl, HB3.out⟩
              · have hde5 : decide ((1 : Int) < (q1 : Int) + 1) = false := decide_eq_false h5
                by_cases h6 : (1 : Int) < (q2 : Int) + 1
                · have HU : Hid (filesB l = false) := Lib.hid (filesB_f (fun h => by
                    have h' := h.take (i + 1)
                    rw [HSN.out, okFs_snoc] at h'
                    exact h'.2.2.2 (HM2.out.2 h6)))
                  clear h1 h2
                  have hde6 : decide ((1 : Int) < (q2 : Int) + 1) = true := decide_eq_true h6
                  go_wp2_with (first | (go_at_call 43; refine (numbered_any _ _).mono ?_; rintro e w' ⟨rfl, rfl⟩) | (at_lookup; refine Hid.out ?_))
                  refine Lib.hid ?_
                  refine wpList_look_cnt _ (by rfl) _ _ rfl (w.heap.size + 1) _ E1.out rfl ftb wt rfl ?_
                  rw [HR1.out]
                  go_wp2_with (first | (go_at_call 43; refine (numbered_any _ _).mono ?_; rintro e w' ⟨rfl, rfl⟩) | (at_lookup; refine Hid.out ?_))
                  refine Lib.hid ?_
                  refine wpList_look_cnt _ (by rfl) _ _ rfl (w.heap.size + 1 + 1) _ E2.out rfl fnm wn rfl ?_
                  rw [HR2.out]
                  go_wp2_with (go_at_call 43; refine (numbered_any _ _).mono ?_; rintro e w' ⟨rfl, rfl⟩)
                  go_ret
                  exact ⟨by rw [HU.out]; rfl, HB3.out⟩
                · have HU : Hid (okFs (l.take (i + 1))) := Lib.hid (by
                    rw [HSN.out, okFs_snoc]
                    exact ⟨HOK.out, ⟨h1, h2, h3', h4'⟩, fun h => h5 (HM1.out.1 h), fun h => h6 (HM2.out.1 h)⟩)
                  have HW1 : Hid (CntAt w3 (w.heap.size + 1) ((l.take (i + 1)).map Sh.tb).reverse) := Lib.hid (by
                    rw [HSN.out]
                    simpa using E1.out)
                  have HW2 : Hid (CntAt w3 (w.heap.size + 1 + 1) ((l.take (i + 1)).map Sh.nm).reverse) := Lib.hid (by
                    rw [HSN.out]
                    simpa using E2.out)
                  clear h1 h2
                  have hde6 : decide ((1 : Int) < (q2 : Int) + 1) = false := decide_eq_false h6
                  go_wp2_with (first | (go_at_call 43; refine (numbered_any _ _).mono ?_; rintro e w' ⟨rfl, rfl⟩) | (at_lookup; refine Hid.out ?_))
                  refine Lib.hid ?_
                  refine wpList_look_cnt _ (by rfl) _ _ rfl (w.heap.size + 1) _ E1.out rfl ftb wt rfl ?_
                  rw [HR1.out]
                  go_wp2_with (first | (go_at_call 43; refine (numbered_any _ _).mono ?_; rintro e w' ⟨rfl, rfl⟩) | (at_lookup; refine Hid.out ?_))
                  refine Lib.hid ?_
                  refine wpList_look_cnt _ (by rfl) _ _ rfl (w.heap.size + 1 + 1) _ E2.out rfl fnm wn rfl ?_
                  rw [HR2.out]
                  go_wp2_with (go_at_call 43; refine (numbered_any _ _).mono ?_; rintro e w' ⟨rfl, rfl⟩)
                  go_roundw
                  case rel => exact ⟨i + 1, by omega, by first | rfl | (push_cast; rfl) | go_num, HU.out, HW1.out, HW2.out, HB3.out⟩
                  case measure => simp [intOf]; omega
        · have hd2 : decide (okN fnm) = false := decide_eq_false h2
          have HU : Hid (filesB l = false) := Lib.hid (filesB_f (fun h => by
            have h' := h.take (i + 1)
            rw [HSN.out, okFs_snoc] at h'
            exact h2 h'.2.1.2.1))
          clear h1 h2
          go_wp2_with (go_at_call 43; refine (numbered_any _ _).mono ?_; rintro e w' ⟨rfl, rfl⟩)
          go_ret
          exact ⟨by rw [HU.out]; rfl, HB3.out⟩
      · have hd1 : decide (okN ftb) = false := decide_eq_false h1
        have HU : Hid (filesB l = false) := Lib.hid (filesB_f (fun h => by
          have h' := h.take (i + 1)
          rw [HSN.out, okFs_snoc] at h'
          exact h1 h'.2.1.1))
        clear h1
        go_wp2_with (go_at_call 43; refine (numbered_any _ _).mono ?_; rintro e w' ⟨rfl, rfl⟩)
        go_ret
        exact ⟨by rw [HU.out]; rfl, HB3.out⟩
    · have hine : i = n := by omega
      subst hine
      have hirr : ¬ (i : Int) < (i : Int) := by omega
      have HU : Hid (filesB l = true) := Lib.hid (filesB_t (by have := HOK.out; rwa [List.take_of_length_le (by rw [HLN.out]; exact Nat.le_refl _)] at this))
      clear hok hc1 hc2 hbl
      go_wp2_with (fail)
      go_ret
      exact ⟨by rw [HU.out]; rfl, HBL.out⟩
end Go.Proofs.Ytmalcekbhnkfgaa
