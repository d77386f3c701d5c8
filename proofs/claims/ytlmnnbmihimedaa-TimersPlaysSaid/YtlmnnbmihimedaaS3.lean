/- The contract of List. Conditions: as each theorem states them. -/
import Derived.Test.YtlmnnbmihimedaaS2
namespace Go.Proofs.Ytlmnnbmihimedaa
open Go.RowKit Go.Maps
set_option linter.unusedVariables false
set_option linter.unusedSimpArgs false

theorem take_snoc {bs : List Nat} {i : Nat} (h : i < bs.length) : bs.take (i + 1) = bs.take i ++ [bs.getD i 0] := by
  rw [List.take_add_one, List.getElem?_eq_getElem h, getD_get h]
  rfl
set_option maxRecDepth 100000 in
set_option maxHeartbeats 2000000 in
theorem list_any (B q m : Nat) (v : Value) (bs : List Nat) (tm : Nat → Tm) (pl : Nat → Int) (w : World) (h : QAt w B q m v bs tm pl) (hn : bs.length ≤ 100000) :
    Calls Try.prog 19 #[.pointer (some ⟨q, 0, none⟩)] w fun e w' => ∃ vo, e = .returned vo ∧ w'.ownsRow w.heap.size 23 3 vo bs.length (tcells (sortT (bs.map tm))) ∧ Below w.heap.size w w' := by
  obtain ⟨i0, hi, hz0, hz1, hz2⟩ := info_parts i23
  have hql := h.heap.lt
  have hN := none_any q m w h.mp
  have hl0 := h.heap.l
  have H := Lib.hid h
  obtain ⟨A, n, c, rfl, hbn⟩ : ∃ A n c, v = .slice A n c ∧ bs.length = n := by
    rcases h.heap.row.2 with ⟨rfl, h0⟩ | ⟨g, c, cur, rfl, _⟩
    · exact ⟨none, 0, 0, rfl, h0⟩
    · exact ⟨_, _, c, rfl, rfl⟩
  have HBN := Lib.hid hbn
  have hnn : n ≤ 100000 := by omega
  clear h hn hbn
  go_enter Try.func19, Try.ntmps19
  go_wp2_with (fail)
  refine hN.mono ?_
  rintro e w1 ⟨rfl, rfl⟩
  clear hN
  go_wp2_with (fail)
  go_loopw [3, 5, 14] (fun vo vx vi wr => ∃ i : Nat, i ≤ n ∧ vi = .int .i64 i ∧ wr.ownsRow w.heap.size 23 3 vo i (tcells ((bs.map tm).take i)) ∧ Kw (fun b => w.heap.size ≤ b) w wr) (fun _ _ i _ => n - (intOf i).toNat)
  case atStart => exact ⟨0, Nat.zero_le _, rfl, ⟨rfl, .inl ⟨rfl, rfl⟩⟩, Kw.refl _ _⟩
  case round =>
    obtain ⟨i, hin, rfl, hown, hk⟩ := hrel
    have HOWN := Lib.hid hown
    have HK := Lib.hid hk
    have hws := hk.size
    clear hown hk
    by_cases hlt : i < n
    · have hi0 : (0 : Int) ≤ (i : Int) := by omega
      have hi1 : (i : Int) < (n : Int) := by omega
      obtain ⟨g, c', hv, hgB, hnc, hcm, cur, hcur, hcsz, hct⟩ := H.out.heap.rowOf (by rw [HBN.out]; omega)
      obtain ⟨rfl, hbl, rfl⟩ : A = some ⟨g, 0, none⟩ ∧ n = bs.length ∧ c = c' := by
        simp only [Value.slice.injEq] at hv
        exact hv
      have hP := H.out.heap.pile HBN.out (by omega)
      have hgl := hP.p.gl
      have hcell : wr.cell? ⟨g, i, none⟩ = some (.pointer (some ⟨bs.getD i 0, 0, none⟩)) := (HK.out.cell hgl (by omega)).trans (hP.cell i (by omega))
      have hbm : bs.getD i 0 ∈ bs := getD_mem (by omega)
      have hit := (H.out.heap.item _ hbm).kw HK.out (by have := (H.out.heap.item _ hbm).lt; omega)
      have hts : (bs.map tm).take (i + 1) = (bs.map tm).take i ++ [tm (bs.getD i 0)] := by rw [← List.map_take, ← List.map_take, take_snoc (by omega), List.map_append]; rfl
      generalize bs.getD i 0 = b at *
      obtain ⟨x, hx⟩ : ∃ x, tm b = x := ⟨_, rfl⟩
      rw [hx] at hit hts
      obtain ⟨j0, j1, j2, _, _, jl⟩ := hit
      have hgl2 : g < wr.heap.size := by omega
      have HTS := Lib.hid hts
      have hW : (wr.alloc (Obj.cells #[Value.int IntKind.i64 x.t, Value.string x.k, Value.string x.s] 23)).ownsRow w.heap.size 23 3 u3 i (tcells ((bs.map tm).take i)) := own_new HOWN.out ((Kw.refl _ _).alloc _)
      clear hct hcur hP hbl hv hx hts hbm
      go_wp2_with ((at_builtin; refine wpList_append_own _ rfl _ _ 30 rfl w.heap.size 23 i0 (.agg #[.int .i64 0, .string ⟨#[]⟩, .string ⟨#[]⟩]) 3 40 und30 hi hz0 hz1 hz2 rfl (by decide) u3 i (tcells ((bs.map tm).take i)) rfl hW ⟨wr.heap.size, 0, none⟩ 1 1 [.int .i64 x.t, .string x.k, .string x.s] rfl rfl ?c1 ?c2 ?c3 ?c4 ?c5 ?_))
      case c1 =>
        intro j u hj
        match j, hj with
        | 0, hj => simp at hj; subst hj; simp [Addr.add]
        | 1, hj => simp at hj; subst hj; simp [Addr.add]
        | 2, hj => simp at hj; subst hj; simp [Addr.add]
      case c2 => intro u hu; simp at hu; rcases hu with rfl | rfl | rfl <;> rfl
      case c3 => unfold maxLen; omega
      case c4 => omega
      case c5 => simp; omega
      intro vo2 w2 hown2 hgrow2 _
      have hk2 : Kw (fun c => w.heap.size ≤ c) w w2 := HK.out.trans (((Kw.refl _ wr).alloc _).grown hgrow2 (own_ge HOWN.out))
      have HK2 := Lib.hid hk2
      have HO2 := Lib.hid hown2
      clear hown2 hgrow2 hk2 hW
      go_wp2_with (fail)
      go_roundw
      case rel =>
        refine ⟨i + 1, by omega, by first | rfl | (push_cast; rfl) | go_num, ?_, HK2.out⟩
        rw [HTS.out, tcells_snoc]
        exact HO2.out
      case measure => simp [intOf]; omega
    · have hine : i = n := by omega
      subst hine
      have hlt2 : ¬ (i : Int) < (i : Int) := by omega
      have hall : (bs.map tm).take i = bs.map tm := by rw [List.take_of_length_le (by rw [List.length_map, HBN.out]; omega)]
      have HO := Lib.hid (show wr.ownsRow w.heap.size 23 3 u3 i (tcells (bs.map tm)) from hall ▸ HOWN.out)
      clear hall
      go_wp2_with (fail)
      refine (sort_any w.heap.size i u3 (bs.map tm) wr HO.out (by rw [List.length_map]; exact HBN.out) (by omega)).mono ?_
      rintro e w2 ⟨rfl, hown2, hk2⟩
      have HO2 := Lib.hid hown2
      have HK2 := Lib.hid hk2
      clear hown2 hk2
      go_wp2_with (fail)
      go_ret
      refine ⟨_, rfl, by rw [HBN.out]; exact HO2.out, ?_⟩
      exact (HK.out.trans (HK2.out.mono (fun b _ hb => own_ge HO.out b hb))).below (Nat.le_refl _) (fun b h => h)
theorem listL (B q m : Nat) (T : List Tm) (F : Nat → Prop) (w : World) (h : QL w B q m T F) :
    Calls Try.prog 19 #[.pointer (some ⟨q, 0, none⟩)] w fun e w' => ∃ vo L, e = .returned vo ∧ w'.ownsRow w.heap.size 23 3 vo L.length (tcells L) ∧ L.Perm T ∧ L.Pairwise ltT ∧ Below w.heap.size w w' := by
  have hnd := h.nodup
  obtain ⟨v, bs, tm, pl, h1, h2, h3, h4, h5⟩ := h
  refine (list_any B q m v bs tm pl w h1 (by omega)).mono ?_
  rintro e w' ⟨vo, rfl, hown, hb⟩
  have hp := (sortT_perm (bs.map tm)).trans h3
  refine ⟨vo, sortT (bs.map tm), rfl, ?_, hp, ?_, hb⟩
  · rw [(sortT_perm (bs.map tm)).length_eq, List.length_map]
    exact hown
  · have h6 := sortT_sorted (bs.map tm)
    have h7 := hp.nodup_iff.2 hnd
    exact (h6.and h7).imp fun {a b} h => h.1.resolve_right h.2
end Go.Proofs.Ytlmnnbmihimedaa
