/- The contract of Due. Conditions: as each theorem states them. -/
import Derived.Test.YtlmnnbmihimedaaC5
namespace Go.Proofs.Ytlmnnbmihimedaa
open Go.RowKit Go.Maps
set_option linter.unusedVariables false
set_option linter.unusedSimpArgs false

/-- What is due up to a time: the blocks that go, those that stay, and the places. -/
def dueR (tm : Nat → Tm) (upto : Int) : Nat → List Nat → (Nat → Int) → List Nat × List Nat × (Nat → Int)
  | 0, bs, pl => ([], bs, pl)
  | f + 1, bs, pl => if 0 < bs.length ∧ (tm (bs.getD 0 0)).t ≤ upto then (bs.getD 0 0 :: (dueR tm upto f (cutL tm bs 0) (cutP tm bs 0 pl)).1, (dueR tm upto f (cutL tm bs 0) (cutP tm bs 0 pl)).2) else ([], bs, pl)
theorem dueR_stop (tm : Nat → Tm) (upto : Int) (f : Nat) (bs : List Nat) (pl : Nat → Int) (h : ¬ (0 < bs.length ∧ (tm (bs.getD 0 0)).t ≤ upto)) : dueR tm upto f bs pl = ([], bs, pl) := by
  cases f with
  | zero => rfl
  | succ f => simp only [dueR]; rw [if_neg h]
/-- The cells of timers in a row. -/
def tcells (l : List Tm) : List Value := l.flatMap fun x => [.int .i64 x.t, .string x.k, .string x.s]
theorem tcells_snoc (l : List Tm) (x : Tm) : tcells (l ++ [x]) = tcells l ++ [.int .i64 x.t, .string x.k, .string x.s] := by simp [tcells]
theorem own_kw {w w' : World} {S : Nat → Prop} {B n sz : Nat} {e : TypeId} {v : Value} {xs : List Value} (h : w.ownsRow B e sz v n xs) (k : Kw S w w') (hg : ∀ g, v.ownBlock = some g → ¬ S g) : w'.ownsRow B e sz v n xs := by
  refine ⟨h.1, ?_⟩
  rcases h.2 with h0 | ⟨g, c, cur, hv, hB, hgc, r⟩
  · exact .inl h0
  · exact .inr ⟨g, c, cur, hv, hB, (k.block g (Array.getElem?_eq_some_iff.1 hgc).1 (hg g (by subst hv; rfl))).trans hgc, r⟩
theorem own_ge {w : World} {B n sz : Nat} {e : TypeId} {v : Value} {xs : List Value} (h : w.ownsRow B e sz v n xs) : ∀ g, v.ownBlock = some g → B ≤ g := by
  intro g hg
  rcases h.2 with ⟨rfl, h0⟩ | ⟨g', cap, cur, rfl, hb, _⟩
  · simp [Value.ownBlock] at hg
  · simp [Value.ownBlock] at hg; omega
theorem own_lt {w : World} {B n sz : Nat} {e : TypeId} {v : Value} {xs : List Value} (h : w.ownsRow B e sz v n xs) : ∀ g, v.ownBlock = some g → g < w.heap.size := by
  intro g hg
  rcases h.2 with ⟨rfl, h0⟩ | ⟨g', cap, cur, rfl, hb, hgc, _⟩
  · simp [Value.ownBlock] at hg
  · simp [Value.ownBlock] at hg
    subst hg
    exact (Array.getElem?_eq_some_iff.1 hgc).1
theorem own_new {w w' : World} {B n sz : Nat} {e : TypeId} {v : Value} {xs : List Value} (h : w.ownsRow B e sz v n xs) (k : Kw (fun b => w.heap.size ≤ b) w w') : w'.ownsRow B e sz v n xs :=
  own_kw h k (fun g hg hs => by have := own_lt h g hg; omega)
theorem i23 : (Try.prog.info? 23).map (fun i => (i.zero, i.size, i.bytes)) = some (some (.agg #[.int .i64 0, .string ⟨#[]⟩, .string ⟨#[]⟩]), 3, 40) := by kernel_rfl
theorem und30 : Try.prog.underlying 30 = some (.slice 23) := by kernel_rfl
/-- How many a queue's row has, as the world tells. -/
def rowLen (w : World) (q : Nat) : Nat := match w.cell? ⟨q, 0, none⟩ with | some (.slice _ n _) => n | _ => 0
set_option maxRecDepth 100000 in
set_option maxHeartbeats 2000000 in
theorem due_any (B q m : Nat) (v : Value) (bs : List Nat) (tm : Nat → Tm) (pl : Nat → Int) (upto : Int) (w : World) (h : QAt w B q m v bs tm pl) (hnd : (bs.map tm).Nodup) (hn : bs.length ≤ 100000) (hB : B ≤ w.heap.size) (out rest : List Nat) (pl' : Nat → Int) (hd : dueR tm upto bs.length bs pl = (out, rest, pl')) :
    Calls Try.prog 17 #[.pointer (some ⟨q, 0, none⟩), .int .i64 upto] w fun e w' => ∃ vo v', e = .returned (.tuple #[vo, .int .i64 0]) ∧ w'.ownsRow w.heap.size 23 3 vo out.length (tcells (out.map tm)) ∧ QAt w' B q m v' rest tm pl' ∧ Kw (QS q m v bs) w w' ∧ v'.ownBlock = v.ownBlock := by
  obtain ⟨i0, hi, hz0, hz1, hz2⟩ := info_parts i23
  have hql := h.heap.lt
  have hN := none_any q m w h.mp
  have H := Lib.hid h
  have HQB : Hid (∀ c, QS q m v bs c → c < w.heap.size) := Lib.hid fun c hc => h.lt hc
  have HND := Lib.hid hnd
  have HD := Lib.hid hd
  clear h hnd hd
  go_enter Try.func17, Try.ntmps17
  go_wp2_with (fail)
  refine hN.mono ?_
  rintro e w1 ⟨rfl, rfl⟩
  clear hN
  go_wp2_with (fail)
  go_loopw [6] (fun vo wr => ∃ (f : Nat) (dn cs : List Nat) (pc : Nat → Int) (v1 : Value), wr.ownsRow w.heap.size 23 3 vo dn.length (tcells (dn.map tm)) ∧ QAt wr B q m v1 cs tm pc ∧ Kw (QS q m v bs) w wr ∧ v1.ownBlock = v.ownBlock ∧ (∀ b ∈ cs, b ∈ bs) ∧ (cs.map tm).Nodup ∧ cs.length ≤ f ∧ dn.length + cs.length = bs.length ∧ (dn ++ (dueR tm upto f cs pc).1, (dueR tm upto f cs pc).2) = (out, rest, pl')) (fun _ wr => rowLen wr q)
  case atStart => exact ⟨bs.length, [], bs, pl, v, ⟨rfl, .inl ⟨rfl, rfl⟩⟩, H.out, Kw.refl _ _, rfl, fun _ h => h, HND.out, Nat.le_refl _, by simp, by rw [List.nil_append]; exact HD.out⟩
  case round =>
    obtain ⟨f, dn, cs, pc, v1, hown, hq, hk, hv1, hcs, hnd, hf, hlen, hdr⟩ := hrel
    have hql2 := hq.heap.lt
    have hl0 := hq.heap.l
    have hmp := hq.mp
    have HOWN := Lib.hid hown
    have HQ := Lib.hid hq
    have HK := Lib.hid hk
    have HV1 := Lib.hid hv1
    have HCS := Lib.hid hcs
    have HND2 := Lib.hid hnd
    have HDR := Lib.hid hdr
    clear hown hq hk hv1 hcs hnd hdr H HND HD
    by_cases hc0 : cs.length = 0
    · have hcs0 : cs = [] := List.length_eq_zero_iff.1 hc0
      subst hcs0
      obtain ⟨A, c, rfl⟩ : ∃ A c, v1 = .slice A 0 c := by
        rcases HQ.out.heap.row.2 with ⟨rfl, _⟩ | ⟨g, c, cur, rfl, _⟩
        · exact ⟨_, _, rfl⟩
        · exact ⟨_, _, rfl⟩
      go_wp2_with (fail)
      refine bodyPost_ret (v := .tuple #[u6, .int .i64 0]) (by simp only [results, Try.results17]; go_simp) rfl ?_
      have hs := dueR_stop tm upto f [] pc (by simp)
      have hh := HDR.out
      rw [hs, List.append_nil] at hh
      obtain ⟨rfl, rfl, rfl⟩ : dn = out ∧ [] = rest ∧ pc = pl' := by simpa using hh
      exact ⟨_, _, rfl, HOWN.out, HQ.out, HK.out, HV1.out⟩
    · obtain ⟨g, c, rfl, hgB, hnc, hcm, cur, hcur, hcsz, hct⟩ := HQ.out.heap.rowOf (by omega)
      have hP := HQ.out.heap.pile rfl (by omega)
      have hgl := hP.p.gl
      obtain ⟨b, r, hbr⟩ : ∃ b r, cs = b :: r := by
        cases cs with
        | nil => simp at hc0
        | cons b r => exact ⟨b, r, rfl⟩
      subst hbr
      have hcell : wr.cell? ⟨g, 0, none⟩ = some (.pointer (some ⟨b, 0, none⟩)) := hP.cell 0 (by simp)
      obtain ⟨j0, j1, j2, _, _, jl⟩ := HQ.out.heap.item b (by simp)
      obtain ⟨n, hn1⟩ : ∃ n, n = (b :: r).length := ⟨_, rfl⟩
      rw [← hn1] at hl0 hnc
      have hnp : 0 < n := by omega
      have hnp' : (0 : Int) < (n : Int) := by omega
      have HN1 := Lib.hid hn1
      have HLF : Hid ((b :: r).length ≤ f ∧ dn.length + (b :: r).length = bs.length) := Lib.hid ⟨hf, hlen⟩
      clear hn1 hP hct hcur hc0 hlen hf
      obtain ⟨x, hx⟩ : ∃ x, tm b = x := ⟨_, rfl⟩
      rw [hx] at j0 j1 j2
      have HX := Lib.hid hx
      clear hx
      by_cases ht : x.t ≤ upto
      · have hws := HK.out.size
        have hW : ((wr.alloc (Obj.cells #[Value.int IntKind.i64 x.t, Value.string x.k, Value.string x.s] 23)).alloc (Obj.cells #[Value.int IntKind.i64 x.t, Value.string x.k, Value.string x.s] 23)).ownsRow w.heap.size 23 3 u6 dn.length (tcells (dn.map tm)) := own_new HOWN.out (((Kw.refl _ _).alloc _).alloc _)
        go_wp2_with ((at_builtin; refine wpList_append_own _ rfl _ _ 30 rfl w.heap.size 23 i0 (.agg #[.int .i64 0, .string ⟨#[]⟩, .string ⟨#[]⟩]) 3 40 und30 hi hz0 hz1 hz2 rfl (by decide) u6 dn.length (tcells (dn.map tm)) rfl hW ⟨wr.heap.size + 1, 0, none⟩ 1 1 [.int .i64 x.t, .string x.k, .string x.s] rfl rfl ?c1 ?c2 ?c3 ?c4 ?c5 ?_))
        case c1 =>
          intro j u hj
          match j, hj with
          | 0, hj => simp at hj; subst hj; simp [Addr.add]
          | 1, hj => simp at hj; subst hj; simp [Addr.add]
          | 2, hj => simp at hj; subst hj; simp [Addr.add]
        case c2 => intro u hu; simp at hu; rcases hu with rfl | rfl | rfl <;> rfl
        case c3 => have := HLF.out.2; unfold maxLen; simp at this; omega
        case c4 => have := HLF.out.2; simp at this; omega
        case c5 => simp; omega
        intro vo2 w2 hown2 hgrow2 _
        have hk2 : Kw (fun c => w.heap.size ≤ c) wr w2 := (((Kw.refl _ wr).alloc _).alloc _).grown hgrow2 (own_ge HOWN.out)
        have hsz2 := hgrow2.size
        simp at hsz2
        have hq2 := HQ.out.kw hk2 (fun c hc => by
          have : c < w.heap.size := HQB.out c (by
            rcases hc with h | h | h | h
            · exact .inl h
            · exact .inr (.inl h)
            · exact .inr (.inr (.inl (HCS.out c h)))
            · exact .inr (.inr (.inr (HV1.out ▸ h))))
          omega)
        have ht2 : ∀ i u, (wr.alloc (Obj.cells #[Value.int IntKind.i64 x.t, Value.string x.k, Value.string x.s] 23)).cell? ⟨wr.heap.size, i, none⟩ = some u → w2.cell? ⟨wr.heap.size, i, none⟩ = some u := fun i u hu => by
          have hne : some wr.heap.size ≠ u6.ownBlock := fun e => by have := own_lt HOWN.out wr.heap.size e.symm; omega
          refine (World.cell?_of_block (a := ⟨wr.heap.size, i, none⟩) ((hgrow2.block wr.heap.size (by simp; omega) hne).trans ?_)).trans hu
          exact (bl_alloc (Below.refl _ _) _).block wr.heap.size (by simp)
        have t0 := ht2 0 (.int .i64 x.t) (by go_keep)
        have t1 := ht2 1 (.string x.k) (by go_keep)
        have t2 := ht2 2 (.string x.s) (by go_keep)
        have hl2 : q < w2.heap.size := hq2.heap.lt
        have hwl : wr.heap.size < w2.heap.size := by omega
        have HO2 := Lib.hid hown2
        have HK2 := Lib.hid hk2
        have HQ2 := Lib.hid hq2
        clear hown2 hgrow2 hk2 hq2 ht2 hW
        have HSUB : Hid (∀ c, QS q m (.slice (some ⟨g, 0, none⟩) (b :: r).length c) (b :: r) c → QS q m v bs c) := Lib.hid fun c hc => by
          rcases hc with h | h | h | h
          · exact .inl h
          · exact .inr (.inl h)
          · exact .inr (.inr (.inl (HCS.out c h)))
          · exact .inr (.inr (.inr (HV1.out ▸ h)))
        go_wp2_with (fail)
        have hap := HQ2.out.apart
        refine (cut_any B q 0 (.slice (some ⟨g, 0, none⟩) (b :: r).length c) (b :: r) tm pc w2 HQ2.out.heap (by simp) (by have := HLF.out.2; omega) (fun c => QS q m v bs c ∧ c ≠ m) ⟨.inl rfl, hap.1⟩ (fun c hc => ⟨.inr (.inr (.inl (HCS.out c hc))), hap.2.1 c hc⟩) (fun g hg => ⟨.inr (.inr (.inr (HV1.out ▸ hg))), hap.2.2 g hg⟩)).mono ?_
        rintro e w3 ⟨rfl, v3, hH3, hk3, hv3, hq3⟩
        have hwr : w.heap.size ≤ wr.heap.size := hws
        have hnq : ¬ (QS q m v bs wr.heap.size ∧ wr.heap.size ≠ m) := fun h => by have := HQB.out _ h.1; omega
        have s0 : w3.cell? ⟨wr.heap.size, 0, none⟩ = some (.int .i64 x.t) := (hk3.cell hwl hnq).trans t0
        have s1 : w3.cell? ⟨wr.heap.size, 1, none⟩ = some (.string x.k) := (hk3.cell hwl hnq).trans t1
        have s2 : w3.cell? ⟨wr.heap.size, 2, none⟩ = some (.string x.s) := (hk3.cell hwl hnq).trans t2
        have s3 : w3.cell? ⟨q, 3, none⟩ = some (.map (some m)) := (hq3 3 (by omega)).trans HQ2.out.mp
        have hsz3 := hk3.size
        have hl3 : q < w3.heap.size := by omega
        have hwl3 : wr.heap.size < w3.heap.size := by omega
        have hcp := cut_perm tm (b :: r) 0 (by simp)
        have hb0 : (b :: r).getD 0 0 = b := rfl
        rw [hb0] at hcp
        have hnd3 : ((b :: cutL tm (b :: r) 0).map tm).Nodup := (hcp.map tm).nodup_iff.2 HND2.out
        rw [List.map_cons, List.nodup_cons] at hnd3
        have hM3 : MapAt w3.drew m (b :: r) tm := (HQ2.out.map.kw hk3 (fun h => h.2 rfl)).kw (S := fun _ => False) (Kw.refl _ _).drew (fun h => h)
        obtain ⟨w4, hrun4, hM4, hturn4⟩ := hM3.del b (cutL tm (b :: r) 0) hcp.symm (fun c hc e => hnd3.1 (e ▸ List.mem_map_of_mem hc)) 0
        rw [HX.out] at hrun4
        have HRUN := Lib.hid hrun4
        have HM4 := Lib.hid hM4
        have HT4 := Lib.hid hturn4
        have HH3 := Lib.hid hH3
        have HK3 := Lib.hid hk3
        have HV3 := Lib.hid hv3
        have HQ3 := Lib.hid hq3
        have HCP := Lib.hid hcp
        have HND3 := Lib.hid hnd3
        clear hrun4 hM4 hturn4 hH3 hk3 hv3 hq3 hcp hnd3 hM3 t0 t1 t2 hap hb0
        go_wp2_with (fail)
        go_still_tail 5, (by kernel_rfl)
        change wpList _ _ _ _ _ w3.drew
        refine wpList_delete_run rfl _ _ 56 23 rfl _ _ rfl rfl rfl HRUN.out ?_
        have hkt : Kw (fun c => c = m) w3 w4 := (Kw.refl _ _).drew.trans (turned_kw HT4.out rfl)
        have hml : m < w.heap.size := HQB.out m (.inr (.inl rfl))
        have hO4 : w4.ownsRow w.heap.size 23 3 vo2 (dn ++ [b]).length (tcells ((dn ++ [b]).map tm)) := by
          rw [List.length_append, List.map_append]
          show w4.ownsRow w.heap.size 23 3 vo2 (dn.length + 1) (tcells (dn.map tm ++ [tm b]))
          rw [tcells_snoc, HX.out]
          exact own_kw (own_kw HO2.out HK3.out (fun g hg h => by have := own_ge HO2.out g hg; have := HQB.out g h.1; omega)) hkt (fun g hg h => by have := own_ge HO2.out g hg; omega)
        have hcm : ∀ c ∈ cutL tm (b :: r) 0, c ∈ b :: r := fun c hc => HCP.out.mem_iff.1 (List.mem_cons_of_mem _ hc)
        have hap2 := HQ2.out.apart
        have hQ4 : QAt w4 B q m v3 (cutL tm (b :: r) 0) tm (cutP tm (b :: r) 0 pc) := by
          refine ⟨HH3.out.kw hkt hap2.1 (fun c hc => hap2.2.1 c (hcm c hc)) (fun g hg => hap2.2.2 g (HV3.out ▸ hg)), ?_, HM4.out, HQ2.out.ge.1, HQ2.out.ge.2.1, fun c hc => HQ2.out.ge.2.2 c (hcm c hc)⟩
          exact (hkt.cell hl3 hap2.1).trans s3
        have hK4 : Kw (QS q m v bs) w w4 := by
          have h1 : Kw (fun c => QS q m v bs c ∨ w.heap.size ≤ c) w w4 := (((HK.out.mono (T := fun c => QS q m v bs c ∨ w.heap.size ≤ c) (fun _ _ h => .inl h)).trans (HK2.out.mono (fun _ _ h => .inr h))).trans (HK3.out.mono (fun _ _ h => .inl h.1))).trans (hkt.mono (fun c _ h => .inl (.inr (.inl h))))
          exact h1.mono (fun c hc h => h.resolve_right (by omega))
        have hl4 : (cutL tm (b :: r) 0).length = r.length := by have := HCP.out.length_eq; simpa using this
        obtain ⟨f', rfl⟩ : ∃ f', f = f' + 1 := ⟨f - 1, by have := HLF.out.1; simp at this; omega⟩
        have hlf := HLF.out
        simp only [List.length_cons] at hlf
        have hR4 : w4.cell? ⟨q, 0, none⟩ = some v3 := hQ4.heap.l
        have hRL : rowLen w4 q = r.length := by
          rcases hQ4.heap.row.2 with ⟨hv, h0⟩ | ⟨g', c', cur', hv, _⟩
          · rw [rowLen, hR4, hv]
            dsimp only
            omega
          · rw [rowLen, hR4, hv]
            exact hl4
        have hRW : rowLen wr q = r.length + 1 := by
          rw [rowLen, HQ.out.heap.l]
          rfl
        have hDR : ((dn ++ [b]) ++ (dueR tm upto f' (cutL tm (b :: r) 0) (cutP tm (b :: r) 0 pc)).1, (dueR tm upto f' (cutL tm (b :: r) 0) (cutP tm (b :: r) 0 pc)).2) = (out, rest, pl') := by
          have hh := HDR.out
          have hb0 : (b :: r).getD 0 0 = b := rfl
          simp only [dueR] at hh
          rw [hb0, HX.out, if_pos ⟨by simp, ht⟩] at hh
          rw [← hh]
          simp
        have HF := Lib.hid hDR
        have HO4 := Lib.hid hO4
        have HQ4 := Lib.hid hQ4
        have HK4 := Lib.hid hK4
        have HRL := Lib.hid hRL
        have HRW := Lib.hid hRW
        clear hDR hO4 hQ4 hK4 hRL hRW hR4
        go_wp2_with (fail)
        go_roundw
        case rel =>
          exact ⟨f', dn ++ [b], cutL tm (b :: r) 0, cutP tm (b :: r) 0 pc, v3, HO4.out, HQ4.out, HK4.out, HV3.out.trans HV1.out, fun c hc => HCS.out c (hcm c hc), HND3.out.2, by omega, by rw [List.length_append, hl4]; simp; omega, HF.out⟩
        case measure =>
          rw [HRL.out, HRW.out]
          omega
      · have ht2 : upto < x.t := by omega
        go_wp2_with (fail)
        refine bodyPost_ret (v := .tuple #[u6, .int .i64 0]) (by simp only [results, Try.results17]; go_simp) rfl ?_
        have hs := dueR_stop tm upto f (b :: r) pc (by
          intro hh
          have : (b :: r).getD 0 0 = b := rfl
          rw [this, HX.out] at hh
          omega)
        have hh := HDR.out
        rw [hs, List.append_nil] at hh
        obtain ⟨rfl, rfl, rfl⟩ : dn = out ∧ b :: r = rest ∧ pc = pl' := by simpa using hh
        exact ⟨_, rfl, HOWN.out, _, HQ.out, HK.out, HV1.out⟩
end Go.Proofs.Ytlmnnbmihimedaa
