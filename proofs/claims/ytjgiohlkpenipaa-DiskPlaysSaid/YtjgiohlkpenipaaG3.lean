/- Contract of Copy's both. Conditions: as each theorem states them. -/
import Derived.Test.YtjgiohlkpenipaaG2
import Derived.Maps.RangeWalk
namespace Go.Proofs.Ytjgiohlkpenipaa
open Go.RowKit Go.Maps
set_option linter.unusedVariables false
set_option linter.unusedSimpArgs false

def twinF (c : Nat) : Value := .func (.func 50) #[] #[ptrV c]
set_option maxRecDepth 100000 in
set_option maxHeartbeats 8000000 in
theorem both_any {w0 : World} {L : Lay} {s : DS} {W : World} {m c cf M : Nat} {tw : List (Nat × Nat)} {l : Dir} {D : DataW Unit} (hd : DAt w0 L s) (h : Cp w0 L s W m tw) (hc : Box W c (.map (some m)) 81) (hf : Box W cf (twinF c) 82)
    (hM : MapAt w0 M l L.bk D) (hl : ∀ p ∈ l, s.has p.2) (hlen : l.length ≤ 1000000) :
    Calls Try.prog 51 #[.map (some M), ptrV cf] W fun r W' => ∃ m2 tw', r = .returned (.map (some m2)) ∧ W.heap.size ≤ m2 ∧ Cp w0 L s W' m tw' ∧ Grows tw tw' ∧ (∀ p ∈ l, ∃ b, twl tw' (L.bk p.2) = some b) ∧ (∃ D', MapAt W' m2 l (nbk tw' L) D') ∧ Kw (fun x => x = m) W W' := by
  have hmm := @run_makeMap Try.prog
  have HD := Lib.hid hd
  have HCP := Lib.hid h
  have HC := Lib.hid hc
  have HF := Lib.hid hf
  have HM := Lib.hid hM
  have HHL := Lib.hid hl
  have HLEN := Lib.hid hlen
  have hMlt := hM.lt
  have hWs := h.b.size
  have hMW : M < W.heap.size := by omega
  have hHm := h.t.lt
  have hmW := h.m
  have HMm : Hid (¬ M = m) := Lib.hid (by omega)
  have lcf := hf.lt
  have lc := hc.lt
  have hmap : ∀ {b v t}, Box W b v t → ¬ b = m := fun {b v t} hb e => by
    obtain ⟨es, cl, h1, _⟩ := h.t
    have h2 : W.heap[b]? = _ := hb
    rw [e, h1] at h2
    cases h2
  have hne : Hid (¬ c = m ∧ ¬ cf = m) := Lib.hid ⟨hmap hc, hmap hf⟩
  have HmW : Hid (m < W.heap.size) := Lib.hid hHm
  have hM1 : Hid (MapAt (W.alloc (.map #[] 0)) M l L.bk D) := Lib.hid (hM.kw (Kw.ofBelow (S := fun _ => False) (h.b.alloc h.b.size _)) (fun e => e))
  have hN1 : Hid (MapAt (W.alloc (.map #[] 0)) W.heap.size [] (nbk tw L) (.map [])) := Lib.hid (MapAt.made W _)
  clear hmap hd h hc hf hM hl hlen hHm hmW
  unfold ptrV twinF at *
  go_enter Try.func51, Try.ntmps51
  go_wp2_with (at_range; refine wpList_range_own _ rfl _ 57 rfl 9 63 keyS u57 RQ M _ D rfl hM1.out.own ?_; intro w1 hrg0 hg0 hs0)
  have HB0 : Hid (Below W.heap.size W w1) := Lib.hid (((Below.refl _ _).alloc (Nat.le_refl _) _).grown hg0 (by simp) (fun g hg => by cases hg))
  have HN0 : Hid (MapAt w1 W.heap.size [] (nbk tw L) (.map [])) := Lib.hid (hN1.out.kw (S := fun _ => False) ((Kw.refl _ _).grown hg0 (fun k hk => by cases hk)) (fun e => e))
  have hit : (W.alloc (.map #[] 0)).heap.size = W.heap.size + 1 := by simp
  rw [hit] at hrg0 hs0 ⊢
  clear hg0 hmm
  go_frame
  go_loopw [] (fun wr => ∃ (left : Go.Lit → Bool) (cnt : Nat) (tw' : List (Nat × Nat)) (l' : Dir), wr.ranges Try.prog 9 RQ M (W.heap.size + 1) l.length D left cnt ∧ Cp w0 L s wr m tw' ∧ Grows tw tw' ∧ (∃ D', MapAt wr W.heap.size l' (nbk tw' L) D') ∧ (l' ++ restOf left l).Perm l ∧ (∀ p ∈ l', ∃ b, twl tw' (L.bk p.2) = some b) ∧ (∀ p ∈ tw', p.2 ≠ W.heap.size ∧ p.2 ≠ W.heap.size + 1) ∧ W.heap.size + 2 ≤ wr.heap.size ∧ Kw (fun x => x = m) W wr) (fun wr => wr.rangeLeft M (W.heap.size + 1))
  case atStart =>
    refine ⟨_, _, tw, [], hrg0, HCP.out.below HB0.out, Grows.refl _, ⟨_, HN0.out⟩, ?_, (fun p hp => by cases hp), fun p hp => ?_, by omega, Kw.ofBelow HB0.out⟩
    · rw [rest_has HM.out]
      exact List.Perm.refl _
    · obtain ⟨i, _, _, hfa⟩ := HCP.out.old p hp
      have := hfa.lt
      omega
  case round =>
    obtain ⟨left, cnt, tw', l', hrg, hcp, hgr, ⟨D', hn⟩, hpe, hmk, hap, hsz, hkw⟩ := hrel
    have HCP2 := Lib.hid hcp
    have HGR := Lib.hid hgr
    have HN := Lib.hid hn
    have HPE := Lib.hid hpe
    have HMK := Lib.hid hmk
    have HAP := Lib.hid hap
    have HKW := Lib.hid hkw
    clear hcp hgr hn hpe hmk hap hkw
    go_wp2_with (at_next; refine wpList_next_ranges _ rfl _ rfl 9 keyS RQ (fun x : ByteArray => Value.string x) (id : Value → Value) (fun key kl hk => by obtain ⟨x, hx, _⟩ := Maps.keyOf_str Try.underlying9 hk; exact ⟨⟨x.toArray⟩, hx⟩) (fun v _ _ => ⟨v, rfl⟩) M (W.heap.size + 1) l.length _ _ _ rfl hrg ?_ ?_)
    · intro hc0 hl0
      have hpl : Hid (l'.Perm l) := Lib.hid (by
        have := HPE.out
        rw [rest_nil hl0, List.append_nil] at this
        exact this)
      go_wp2_with (fail)
      go_ret
      exact ⟨_, tw', rfl, Nat.le_refl _, HCP2.out, HGR.out, fun p hp => HMK.out p (hpl.out.mem_iff.2 hp), ⟨D', HN.out.perm hpl.out.symm⟩, HKW.out⟩
    · intro x v kl yd yp w2 cnt2 hkey hlk hv hat hrg2 hlt hg2 hs2 hen
      obtain ⟨i, hm, rfl, hcv⟩ := HM.out.came (y := (yd, yp)) hkey hv hat
      rw [hcv] at hen ⊢
      have hxk : okN x := HM.out.ok _ hm
      have K2 : Hid (Kw (fun b => b = W.heap.size + 1) wr w2) := Lib.hid ((Kw.refl _ _).grown hg2 (fun g hg => by cases hg; rfl))
      have CP2 : Hid (Cp w0 L s w2 m tw') := Lib.hid (HCP2.out.kw K2.out (fun b e => ⟨by omega, by have := HmW.out; omega, fun p hp e2 => (HAP.out p hp).2 (e2.trans e)⟩))
      have c2 : Hid (Box w2 c (.map (some m)) 81) := Lib.hid ((HC.out.kw HKW.out hne.out.1).kw K2.out (by omega))
      have f2 : Hid (Box w2 cf (twinF c) 82) := Lib.hid ((HF.out.kw HKW.out hne.out.2).kw K2.out (by omega))
      have fc := f2.out.cell
      have flt := f2.out.lt
      have HTW := Lib.hid (twin_cp HD.out CP2.out c2.out (HHL.out _ hm))
      have HN2 : Hid (MapAt w2 W.heap.size l' (nbk tw' L) D') := Lib.hid (HN.out.kw K2.out (by omega))
      have hrl := hrg.left_eq
      have hrl2 := hrg2.left_eq
      have HRG2 := Lib.hid hrg2
      have HLT := Lib.hid hlt
      have HLK := Lib.hid hlk
      have HM2 := Lib.hid hm
      have HXK := Lib.hid hxk
      unfold ptrV at *
      unfold twinF at fc
      clear hg2 hs2 hlt hrl2 hv hat hkey hcv hrg hrg2 hm hxk hlk
      go_wp2_with (fail)
      refine HTW.out.mono ?_
      rintro r w3 ⟨tw3, b3, rfl, hcp3, hb3, hg3, hmem3, hk3⟩
      have N3 : Hid (MapAt w3 W.heap.size l' (nbk tw3 L) D') := Lib.hid ((HN2.out.fn (fun p hp => by
        obtain ⟨b, hb⟩ := HMK.out p hp
        exact nbk_grows hg3 hb)).kw hk3 (by have := HmW.out; omega))
      have hnx : ∀ p ∈ l', p.1 ≠ x := fun p hp e => by
        have h1 := (rest_mem HM.out.nd HM2.out HLK.out)
        have h2 : (l' ++ (x, i) :: restOf (fun z => left z && !z.sameKey (klS x)) l).Perm l := ((h1.symm.append_left l')).trans HPE.out
        have h3 := (h2.map Prod.fst).nodup_iff.2 HM.out.nd
        rw [List.map_append, List.map_cons] at h3
        exact (List.nodup_append.1 h3).2.2 p.1 (List.mem_map.2 ⟨p, hp, rfl⟩) x (List.mem_cons_self ..) e
      have hwi : (wi l' x i).Perm ((x, i) :: l') := by
        refine (wi_perm l' x i).trans ?_
        rw [show wo l' x = l' from by
          unfold wo
          rw [List.filter_eq_self]
          intro p hp
          simpa using hnx p hp]
      have hll : l'.length < maxLen := by
        have h1 := HPE.out.length_eq
        rw [List.length_append] at h1
        have h2 := HLEN.out
        unfold maxLen
        omega
      obtain ⟨w4, D4, hrun, hn4, ht4⟩ := N3.out.put HXK.out i hll
      rw [nbk_eq hb3] at hrun
      have k4 : Kw (fun b => b = W.heap.size) w3 w4 := turned_kw ht4 rfl
      have hz3 := hk3.size
      have hz4 := k4.size
      have HRUN := Lib.hid hrun
      have HCP4 : Hid (Cp w0 L s w4 m tw3) := Lib.hid (hcp3.kw k4 (fun b e => ⟨by have := HCP.out.b.size; omega, by have := HmW.out; omega, fun p hp e2 => by
        rcases hmem3 p hp with h | h
        · exact (HAP.out p h).1 (e2.trans e)
        · have := K2.out.size
          omega⟩))
      have HR4 := Lib.hid (ranges_kw (ranges_kw HRG2.out hk3 HMm.out (by have := HmW.out; omega)) k4 (by omega) (by omega))
      have HN4 := Lib.hid hn4
      have HG3 := Lib.hid hg3
      have HB3 := Lib.hid hb3
      have HME := Lib.hid hmem3
      have HWI := Lib.hid hwi
      have HK4 : Hid (Kw (fun x => x = m) W w4) := Lib.hid (⟨k4.os.trans (hk3.os.trans (K2.out.os.trans HKW.out.os)), k4.tape.trans (hk3.tape.trans (K2.out.tape.trans HKW.out.tape)), k4.output.trans (hk3.output.trans (K2.out.output.trans HKW.out.output)), by have := K2.out.size; have := HKW.out.size; omega, fun b hb hS => by
        have := K2.out.size
        have := HKW.out.size
        rw [k4.block b (by omega) (by omega), hk3.block b (by omega) hS, K2.out.block b (by omega) (by omega), HKW.out.block b hb hS]⟩)
      have hz2 := K2.out.size
      have hm4 := HR4.out.left_eq
      clear hrun hcp3 hb3 hg3 hmem3 hk3 k4 ht4 hn4 hll hwi hnx
      unfold ptrV at HRUN
      go_wp2_with (at_mapUpdate; refine wpList_mapUpdate_run rfl _ _ _ 57 rfl _ _ _ rfl rfl rfl rfl HRUN.out ?_)
      refine ⟨⟨_, _, tw3, wi l' x i, HR4.out, HCP4.out, HGR.out.trans HG3.out, ⟨D4, HN4.out⟩, ?_, fun p hp => ?_, fun p hp => ?_, by omega, HK4.out⟩, ?_⟩
      · have h1 := rest_mem HM.out.nd HM2.out HLK.out
        refine ((HWI.out.append_right _).trans ?_).trans HPE.out
        refine List.Perm.trans ?_ (h1.symm.append_left l')
        rw [List.cons_append]
        exact List.perm_middle.symm
      · rcases List.mem_cons.1 (HWI.out.mem_iff.1 hp) with rfl | hp
        · exact ⟨b3, HB3.out⟩
        · obtain ⟨b, hb⟩ := HMK.out p hp
          exact ⟨b, HG3.out _ _ hb⟩
      · rcases HME.out p hp with h | h
        · exact HAP.out p h
        · omega
      · rw [hm4, hrl]
        exact HLT.out
end Go.Proofs.Ytjgiohlkpenipaa
