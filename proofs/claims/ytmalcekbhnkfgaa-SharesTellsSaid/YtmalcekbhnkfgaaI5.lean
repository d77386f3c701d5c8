/- Contracts of slices.Sort, and of slices.Sorted of a map's keys. Conditions: as each theorem states them. -/
import Derived.Test.YtmalcekbhnkfgaaI3
import Derived.Test.YtmalcekbhnkfgaaB6
namespace Go.Proofs.Ytmalcekbhnkfgaa
open Go.RowKit Go.Maps Go.Shelf
set_option linter.unusedVariables false
set_option linter.unusedSimpArgs false

theorem bitLen_small (n : Nat) (hn : n ≤ 1000000) : Lib.bitLen n ≤ 62 := by
  rcases Nat.eq_zero_or_pos n with rfl | h0
  · decide
  · have hp := bitLen_pow n h0 (by omega)
    rcases Nat.lt_or_ge 62 (Lib.bitLen n) with h | h
    · have := Nat.pow_le_pow_right (n := 2) (by decide) (Nat.le_of_lt h)
      have h62 : (2 : Nat) ^ 62 = 4611686018427387904 := by decide
      omega
    · exact h
set_option maxRecDepth 100000 in
set_option maxHeartbeats 4000000 in
theorem sort_any (b n cap : Nat) (z0 : Nat → Int) (w : World) (hz : RowI w b n z0) (hn : n ≤ 1000000) (hnc : n ≤ cap) :
    Calls Try.prog 47 #[.slice (some ⟨b, 0, none⟩) n cap] w fun e w' => e = .returned (.tuple #[]) ∧ (∃ z, RowI w' b n z ∧ ((List.range n).map z).Perm ((List.range n).map z0) ∧ Srt z 0 n) ∧ Kw (fun x => x = b) w w' := by
  obtain ⟨k, hk⟩ : ∃ k, Lib.bitLen n = k := ⟨_, rfl⟩
  have hk62 : k ≤ 62 := by rw [← hk]; exact bitLen_small n hn
  have HI : Hid (Calls Try.prog 50 #[.slice (some ⟨b, 0, none⟩) n cap, .int .i64 0, .int .i64 n, .int .i64 (k : Int)] w fun e w' => e = .returned (.tuple #[]) ∧ (∃ z, RowI w' b n z ∧ Sw 0 n z0 z ∧ Srt z 0 n) ∧ Kw (fun x => x = b) w w') :=
    Lib.hid (pdq_any b n cap hn hnc (n + 1) 0 n k z0 w (by omega) (by omega) (Nat.le_refl _) (by omega) hz (fun h => absurd h (by omega)))
  have HL : Hid (∀ w, Calls Try.prog 51 #[.int .u64 (n : Int)] w fun e w' => e = .returned (.int .i64 (k : Nat)) ∧ w' = w) := Lib.hid (fun w => by
    have h := len_any (n : Int) w (by omega) (by omega)
    rwa [Int.toNat_natCast, hk] at h)
  clear hz hk
  go_enter Try.func47, Try.ntmps47
  go_wp2_with (fail)
  refine (HL.out _).mono ?_
  rintro e w2 ⟨rfl, rfl⟩
  go_wp2_with (fail)
  refine HI.out.mono ?_
  rintro e w2 ⟨rfl, ⟨z, hz2, hs2, ho2⟩, hk2⟩
  have HZ2 := Lib.hid hz2
  have HS2 := Lib.hid (hs2.perm (Nat.le_refl _))
  have HO2 := Lib.hid ho2
  have HK2 := Lib.hid hk2
  clear hz2 hk2 hs2 ho2
  go_wp2_with (fail)
  go_end0
  exact ⟨rfl, ⟨z, HZ2.out, HS2.out, HO2.out⟩, HK2.out⟩
/-- What slices.Sorted hands back of a map's keys: all of them, each once, in order. -/
def SortedR (D0 : DataW Unit) (w : World) (e : Ending) (w' : World) : Prop := ∃ (A : Option Addr) (n cap : Nat) (z : Nat → Int), e = .returned (.slice A n cap) ∧ (n = 0 ∨ ∃ g, A = some ⟨g, 0, none⟩ ∧ w.heap.size ≤ g ∧ RowI w' g n z) ∧ n ≤ cap ∧ (∃ ys, KeysL D0 ys ∧ ys.length = n ∧ ((List.range n).map z).Perm (ys.map Subtype.val)) ∧ Srt z 0 n ∧ Below w.heap.size w w'
set_option maxRecDepth 100000 in
set_option maxHeartbeats 4000000 in
theorem sorted_any (Bm b nn : Nat) (D0 : DataW Unit) (w : World) (hBm : Bm < w.heap.size) (hm : w.cell? ⟨Bm, 0, none⟩ = some (.map (some b))) (hown : w.ownsMap Try.prog 23 (plainElem Try.prog 3) b nn D0) (hsz : size D0 ≤ 1000000) (h3 : ∀ ys, KeysL D0 ys → ys.length ≤ 1000000) :
    Calls Try.prog 37 #[.func (.func 48) #[] #[.pointer (some ⟨Bm, 0, none⟩)]] w (SortedR D0 w) := by
  have H := Lib.hid (collect_any Bm b nn D0 w hBm hm hown hsz)
  have H3 := Lib.hid h3
  clear hm hown h3
  go_enter Try.func37, Try.ntmps37
  go_wp2_with (fail)
  refine H.out.mono ?_
  rintro e w2 ⟨v, ys, rfl, hk, hrow, hb⟩
  obtain ⟨n, hlen⟩ : ∃ n, ys.length = n := ⟨_, rfl⟩
  have hn := H3.out ys hk
  rw [hlen] at hn hrow
  have HLEN := Lib.hid hlen
  have HK := Lib.hid hk
  have HB := Lib.hid hb
  rcases Nat.eq_zero_or_pos n with h0 | h0
  · subst h0
    obtain ⟨A, cap, rfl⟩ : ∃ A cap, v = .slice A 0 cap := by
      rcases hrow.2 with ⟨e, _⟩ | ⟨g', cap', cur, e, _⟩
      · exact ⟨_, _, e⟩
      · exact ⟨_, _, e⟩
    have HS := Lib.hid (sort_0 A cap w2)
    clear hrow hk hb hlen hn
    go_wp2_with (fail)
    refine HS.out.mono ?_
    rintro e w3 ⟨rfl, rfl⟩
    go_wp2_with (fail)
    go_ret
    refine ⟨A, 0, cap, fun _ => 0, rfl, Or.inl rfl, Nat.zero_le _, ⟨ys, HK.out, HLEN.out, ?_⟩, fun p q h1 h2 h3 => by omega, HB.out⟩
    rw [List.eq_nil_of_length_eq_zero HLEN.out]
    exact List.Perm.refl _
  · obtain ⟨g, cap, rfl⟩ : ∃ g cap, v = .slice (some ⟨g, 0, none⟩) n cap := by
      obtain ⟨k, rfl⟩ : ∃ k, n = k + 1 := ⟨n - 1, by omega⟩
      exact ownsRow_succ hrow
    have hgB := own_ge hrow g rfl
    have hcap : n ≤ cap := by
      rcases hrow.2 with ⟨e, _⟩ | ⟨g', cap', cur, e, hB, hg, h1, _⟩
      · simp at e
      · simp at e; omega
    have hrow' : w2.ownsRow w.heap.size 23 1 (.slice (some ⟨g, 0, none⟩) n cap) n (icells (ys.map Subtype.val)) := by
      have e : icells (ys.map Subtype.val) = ucells ys := by simp [icells, ucells]
      rw [e]
      exact hrow
    have hR := own_row hrow' (by simp [hlen])
    have HS := Lib.hid (sort_any g n cap _ w2 hR hn hcap)
    have hp0 : (List.range n).map (fun i => (ys.map Subtype.val).getD i 0) = ys.map Subtype.val := by
      apply List.ext_getElem
      · simp [hlen]
      · intro i h1 h2
        simp at h1 h2
        simp [List.getD_eq_getElem?_getD, h2]
    have HP0 := Lib.hid hp0
    clear hrow hrow' hR hk hb hp0 hlen
    go_wp2_with (fail)
    refine HS.out.mono ?_
    rintro e w3 ⟨rfl, ⟨z, hz, hp, ho⟩, hk3⟩
    have HZ := Lib.hid hz
    have HP := Lib.hid hp
    have HO := Lib.hid ho
    have HK3 := Lib.hid hk3
    clear hz hp ho hk3
    go_wp2_with (fail)
    go_ret
    have hp := HP.out
    rw [HP0.out] at hp
    exact ⟨_, _, cap, z, rfl, Or.inr ⟨g, rfl, hgB, HZ.out⟩, hcap, ⟨ys, HK.out, HLEN.out, hp⟩, HO.out, HB.out.trans (HK3.out.below (by have := HB.out.size; omega) (fun b hb => by omega))⟩
end Go.Proofs.Ytmalcekbhnkfgaa
namespace Go.Proofs.Ytmalcekbhnkfgaa
open Go.RowKit Go.Maps Go.Shelf
set_option linter.unusedVariables false
set_option linter.unusedSimpArgs false

theorem nodup_le {l m : List Int} (h : l.Nodup) (hs : ∀ x ∈ l, x ∈ m) : l.length ≤ m.length := by
  induction l generalizing m with
  | nil => exact Nat.zero_le _
  | cons a l ih =>
    have ha : a ∈ m := hs a (List.mem_cons_self ..)
    have h1 := ih (m := m.erase a) (List.nodup_cons.1 h).2 (fun x hx => by
      have hne : x ≠ a := fun e => (List.nodup_cons.1 h).1 (e ▸ hx)
      exact (List.mem_erase_of_ne hne).2 (hs x (List.mem_cons_of_mem _ hx)))
    have h2 := List.length_erase_of_mem ha
    have h3 := List.length_pos_of_mem ha
    simp only [List.length_cons]
    omega
theorem vals_nodup {ys : List U64} (h : ys.Nodup) : (ys.map Subtype.val).Nodup := by
  induction ys with
  | nil => exact List.nodup_nil
  | cons a l ih =>
    rw [List.map_cons, List.nodup_cons]
    refine ⟨fun hm => ?_, ih (List.nodup_cons.1 h).2⟩
    obtain ⟨b, hb, e⟩ := List.mem_map.1 hm
    exact (List.nodup_cons.1 h).1 (Subtype.ext e ▸ hb)
theorem keys_le {ys : List U64} {L : List Int} (h : ys.Nodup) (hs : ∀ x : U64, x ∈ ys → x.1 ∈ L) : ys.length ≤ L.length := by
  have h1 := nodup_le (vals_nodup h) (m := L) (fun x hx => by
    obtain ⟨y, hy, rfl⟩ := List.mem_map.1 hx
    exact hs y hy)
  rwa [List.length_map] at h1
/-- The numbers of L, each once, in order. -/
def CKeys (L : List Int) (n : Nat) (z : Nat → Int) : Prop := (∀ p q, p < q → q < n → z p < z q) ∧ (∀ x : U64, (∃ i, i < n ∧ z i = x.1) ↔ x.1 ∈ L) ∧ ∀ i, i < n → (Lit.int .u64 (z i)).wf = true
theorem ckeys {L : List Int} {n : Nat} {z : Nat → Int} {ys : List U64} (k1 : ys.Nodup) (k2 : ∀ x : U64, x ∈ ys ↔ x.1 ∈ L) (hyl : ys.length = n) (hp : ((List.range n).map z).Perm (ys.map Subtype.val)) (ho : Srt z 0 n) : CKeys L n z := by
  have hmem : ∀ x : Int, (∃ i, i < n ∧ z i = x) ↔ x ∈ ys.map Subtype.val := fun x => by
    rw [← hp.mem_iff, List.mem_map]
    constructor
    · rintro ⟨i, hi, e⟩
      exact ⟨i, List.mem_range.2 hi, e⟩
    · rintro ⟨i, hi, e⟩
      exact ⟨i, List.mem_range.1 hi, e⟩
  have hnd : ((List.range n).map z).Nodup := hp.nodup_iff.2 (vals_nodup k1)
  refine ⟨fun p q h1 h2 => ?_, fun x => ?_, fun i hi => ?_⟩
  · have hle := ho p q (Nat.zero_le _) h1 h2
    have hne : z p ≠ z q := fun e => by
      have h := List.pairwise_iff_getElem.1 hnd p q (by simp; omega) (by simp; omega) h1
      simp at h
      exact h e
    omega
  · rw [hmem, ← k2 x, List.mem_map]
    constructor
    · rintro ⟨y, hy, e⟩
      rwa [← Subtype.ext e]
    · intro hx
      exact ⟨x, hx, rfl⟩
  · obtain ⟨y, _, e⟩ := List.mem_map.1 ((hmem (z i)).1 ⟨i, hi, rfl⟩)
    rw [← e]
    exact y.2
/-- What Counts answers. -/
def CountsR (w : World) (L : List Int) (e : Ending) (w' : World) : Prop := ∃ (v : Value) (n : Nat) (z : Nat → Int), e = .returned v ∧ n ≤ 1000000 ∧ CKeys L n z ∧ w'.ownsRow w.heap.size 43 2 v n (cpair z L n) ∧ Below w.heap.size w w'
set_option maxRecDepth 100000 in
set_option maxHeartbeats 4000000 in
theorem counts_any (A : Option Addr) (c : Nat) (l : List Pt) (w : World) (hA : RdP w w.heap.size A l) (hLl : (cntL l).length ≤ 100000) :
    Calls Try.prog 19 #[.slice A l.length c] w (CountsR w (cntL l)) := by
  obtain ⟨i0, hi, hz0, hz1, hz2⟩ := info_parts i43
  have HC := Lib.hid (counted_any A c l w hA)
  have HLl := Lib.hid hLl
  generalize cntL l = L at *
  generalize l.length = nl at *
  clear hA hLl
  go_enter Try.func19, Try.ntmps19
  go_wp2_with (fail)
  refine HC.out.mono ?_
  rintro e w1 ⟨rfl, hc1, hb1⟩
  have HC1 := Lib.hid hc1
  have HB1 := Lib.hid hb1
  have hs1 := hb1.size
  have hm1 := hc1.lt
  clear hc1 hb1
  go_wp2_with (go_at_call 38; refine (callsIn_wide.1 (keys_in Fence.wide 5 trivial rfl _ _)).mono ?_; rintro e w' ⟨rfl, rfl⟩)
  have hbW : Below w1.heap.size w1 (w1.alloc (Obj.cells #[Value.map (some w.heap.size)] 62)) := bl_alloc (Below.refl _ _) _
  have bM := Boxed.new w1 62 (.map (some w.heap.size))
  have hsW : (w1.alloc (Obj.cells #[Value.map (some w.heap.size)] 62)).heap.size = w1.heap.size + 1 := by simp
  generalize (w1.alloc (Obj.cells #[Value.map (some w.heap.size)] 62)) = w2 at *
  have hc2 := HC1.out.below hbW hm1
  obtain ⟨D, hown, hkey⟩ := keysL_cnt hc2
  have hlen3 : ∀ ys, KeysL D ys → ys.length ≤ 1000000 := fun ys hy => by
    obtain ⟨k1, k2⟩ := hkey ys hy
    have h := keys_le k1 (fun x hx => (k2 x).1 hx)
    have h2 := HLl.out
    omega
  have HS := Lib.hid (sorted_any w1.heap.size w.heap.size L.length D w2 (by omega) bM.cell hown (by have h1 := hown.size_le; have h2 := HLl.out; omega) hlen3)
  have HKY := Lib.hid hkey
  have HC2 := Lib.hid hc2
  have HB2 := Lib.hid (HB1.out.trans (hbW.mono hs1))
  have hlen3 := Lib.hid hlen3
  clear bM hown hkey hc2 hbW
  refine HS.out.mono ?_
  rintro e w3 ⟨Az, n, cap, z, rfl, hz, hcap, ⟨ys, hky, hyl, hp⟩, ho, hb3⟩
  have hks : CKeys L n z := by
    obtain ⟨k1, k2⟩ := HKY.out ys hky
    exact ckeys k1 k2 hyl hp ho
  have hn : n ≤ 1000000 := by
    rw [← hyl]
    exact hlen3.out ys hky
  have hwf : ∀ i, i < n → (Lit.int .u64 (z i)).wf = true := hks.2.2
  have HZ := Lib.hid hz
  have HKS := Lib.hid hks
  have HWF := Lib.hid hwf
  have hs3 := hb3.size
  have HC3 := Lib.hid (HC2.out.below hb3 (by omega))
  have HB3 := Lib.hid (HB2.out.trans (hb3.mono (by omega)))
  clear hky hz hp ho hb3 hks hwf hyl hlen3
  go_wp2_with (fail)
  go_loopw [4, 13] (fun vo vi wr => ∃ i : Nat, i ≤ n ∧ vi = .int .i64 i ∧ wr.ownsRow w3.heap.size 43 2 vo i (cpair z L i) ∧ Below w3.heap.size w3 wr) (fun _ i _ => n - (intOf i).toNat)
  case atStart => exact ⟨0, by omega, rfl, ⟨rfl, .inl ⟨rfl, rfl⟩⟩, Below.refl _ _⟩
  case round =>
    obtain ⟨i, hin, rfl, hown, hbl⟩ := hrel
    have HOWN := Lib.hid hown
    have HBL := Lib.hid hbl
    have hws := hbl.size
    have hcn := HC3.out.below hbl (by omega)
    have HCN := Lib.hid hcn
    by_cases hi' : i < n
    · have hi0 : (0 : Int) ≤ (i : Int) := by omega
      have hi1 : (i : Int) < (n : Int) := by omega
      obtain ⟨g, rfl, hg, hzr⟩ : ∃ g, Az = some ⟨g, 0, none⟩ ∧ w2.heap.size ≤ g ∧ RowI w3 g n z := by
        rcases HZ.out with h | h
        · omega
        · exact h
      have hgl := hzr.1
      obtain ⟨a0, _⟩ := hzr.2 i hi'
      clear hzr
      have a0 := (hbl.cell (p := ⟨g, i, none⟩) hgl).trans a0
      have hgw : g < wr.heap.size := by omega
      have HW := Lib.hid (HWF.out i hi')
      have HSU := Lib.hid (cpair_succ z L i)
      clear hown hbl hcn
      go_wp2_with ((at_lookup; refine Hid.out ?_))
      refine Lib.hid ?_
      refine wpList_look_cnt _ (by rfl) _ _ rfl w.heap.size L HCN.out rfl (z i) HW.out rfl ?_
      go_wp2_with ((at_builtin; refine Hid.out ?_))
      refine Lib.hid ?_
      have hbA : Below wr.heap.size wr (wr.alloc (Obj.cells #[Value.int .u64 (z i), Value.int .i64 (L.count (z i) : Nat)] 43)) := bl_alloc (Below.refl _ _) _
      refine wpList_append_own _ rfl _ _ 39 rfl w3.heap.size 43 i0 (.agg #[.int .u64 0, .int .i64 0]) 2 16 u39 hi hz0 hz1 hz2 rfl (by decide) _ i (cpair z L i) rfl (own_new HOWN.out hbA) ⟨wr.heap.size, 0, none⟩ 1 1 [.int .u64 (z i), .int .i64 (L.count (z i) : Nat)] rfl rfl ?c1 (by simp [Value.oneCell']) (by unfold maxLen; omega) (by omega) (by simp; omega) ?_
      case c1 =>
        intro j u hj
        match j, hj with
        | 0, hj => simp at hj; subst hj; simp [Addr.add]
        | 1, hj => simp at hj; subst hj; simp [Addr.add]
      intro v' w4 hown4 hgrow4 _
      have hb4 : Below w3.heap.size w3 w4 := (HBL.out.trans (hbA.mono hws)).grown hgrow4 (by simp; omega) (own_ge HOWN.out)
      have HO4 : Hid (w4.ownsRow w3.heap.size 43 2 v' (i + 1) (cpair z L (i + 1))) := Lib.hid (by rw [HSU.out]; exact hown4)
      have HB4 := Lib.hid hb4
      clear hown4 hgrow4 hb4 hbA
      go_wp2_with (fail)
      go_roundw
      case rel => exact ⟨i + 1, by omega, by first | rfl | (push_cast; rfl) | go_num, HO4.out, HB4.out⟩
      case measure => simp [intOf]; omega
    · obtain rfl : i = n := by omega
      have HO : Hid (wr.ownsRow w.heap.size 43 2 u4 i (cpair z L i)) := Lib.hid (own_le HOWN.out (by omega))
      clear hown hbl hcn
      go_wp2_with (fail)
      go_ret
      exact ⟨_, i, z, rfl, hn, HKS.out, HO.out, HB3.out.trans (HBL.out.mono (by omega))⟩
end Go.Proofs.Ytmalcekbhnkfgaa
