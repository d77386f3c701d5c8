/- Contract of the reference's Counts. Conditions: as each theorem states them. -/
import Derived.Test.YtmalcekbhnkfgaaK3
namespace Go.Proofs.Ytmalcekbhnkfgaa
open Go.RowKit Go.Maps Go.Shelf
set_option linter.unusedVariables false
set_option linter.unusedSimpArgs false

/-- The counts of the numbers S, in a row of the call's own. -/
def OutC (wr : World) (B : Nat) (vo : Value) (L S : List Int) : Prop := ∃ (m : Nat) (z : Nat → Int), wr.ownsRow B 43 2 vo m (cpair z L m) ∧ SrtK z m ∧ (∀ y, (∃ j, j < m ∧ z j = y) ↔ y ∈ S) ∧ m ≤ S.length
theorem OutC.new {w w' : World} {B : Nat} {vo : Value} {L S : List Int} (h : OutC w B vo L S) (k : Below w.heap.size w w') : OutC w' B vo L S := by
  obtain ⟨m, z, h1, h2⟩ := h
  exact ⟨m, z, own_new h1 k, h2⟩
def nmF (l : List Sh) : List Int := l.map Sh.nm
theorem nmF_snoc (l : List Sh) (f : Sh) : nmF (l ++ [f]) = nmF l ++ [f.nm] := by simp [nmF]
theorem nmF_app (l m : List Sh) : nmF (l ++ m) = nmF l ++ nmF m := by simp [nmF]
theorem allF_len {l : List Pt} (h : RightP l) (i : Nat) : (nmF (allF (l.take i))).length ≤ 4096 := by
  unfold nmF allF
  rw [List.length_map, List.length_map]
  have h2 := flat_length_le 0 (l.take i) (fun q hq => (h.2.1 q (List.mem_of_mem_take hq)).2.1)
  rw [List.length_take] at h2
  have h3 : min i l.length ≤ 16 := by have := h.1; omega
  have h4 : min i l.length * 256 ≤ 16 * 256 := Nat.mul_le_mul_right _ h3
  omega
theorem mem_cnt {l : List Pt} (h : RightP l) (y : Int) : y ∈ cntL l ↔ y ∈ nmF (allF l) := by
  rw [cnt_right h]
  unfold nums nmF allF
  rw [List.mem_reverse, List.map_map]
  exact Iff.rfl
theorem OutC.ckeys {wr : World} {B : Nat} {vo : Value} {l : List Pt} (hr : RightP l) (h : OutC wr B vo (cntL l) (nmF (allF l))) (hB : B ≤ wr.heap.size) : ∃ (m : Nat) (z : Nat → Int), m ≤ 1000000 ∧ CKeys (cntL l) m z ∧ wr.ownsRow B 43 2 vo m (cpair z (cntL l) m) := by
  obtain ⟨m, z, h1, h2, h3, h4⟩ := h
  have hlen := allF_len hr l.length
  rw [List.take_length] at hlen
  refine ⟨m, z, by omega, ⟨h2, fun x => ?_, fun i hi => ?_⟩, h1⟩
  · rw [h3 x.1, mem_cnt hr]
  · have hm := (h3 (z i)).1 ⟨i, hi, rfl⟩
    obtain ⟨f, _, e⟩ := List.mem_map.1 hm
    rw [← e]
    exact f.wn
set_option maxRecDepth 100000 in
set_option maxHeartbeats 16000000 in
theorem rcounts_right (A : Option Addr) (n c : Nat) (l : List Pt) (w : World) (hl : l.length = n) (hA : RdP w w.heap.size A l) (hr : RightP l) :
    Calls Try.prog 25 #[.slice A n c] w fun e w' => ∃ vo, e = .returned vo ∧ OutC w' w.heap.size vo (cntL l) (nmF (allF l)) ∧ Below w.heap.size w w' := by
  have HL := Lib.hid hl
  have HA := Lib.hid hA
  have HRP := Lib.hid hr
  have HR := Lib.hid (fun (w' : World) (h : Below w.heap.size w w') => rright_any A c l w' ((hA.below h).more h.size (Nat.le_refl _)))
  have HNM := Lib.hid (fun (x : Int) (w' : World) (h : Below w.heap.size w w') => named_any A c l x w' ((hA.below h).more h.size (Nat.le_refl _)))
  rw [hl] at HR HNM
  rw [rightB_t hr] at HR
  have hn16 : n ≤ 16 := by rw [← hl]; exact hr.1
  have HAL := Lib.hid (allF_len hr)
  obtain ⟨L, hL⟩ : ∃ L, cntL l = L := ⟨_, rfl⟩
  rw [hL] at HNM ⊢
  clear hl hA hr hL
  go_enter Try.func25, Try.ntmps25
  go_wp2_with (fail)
  go_loopw [3, 4] (fun vo vi wr => ∃ i : Nat, i ≤ n ∧ vi = .int .i64 i ∧ OutC wr w.heap.size vo L (nmF (allF (l.take i))) ∧ Below w.heap.size w wr) (fun _ i _ => n - (intOf i).toNat)
  case atStart => exact ⟨0, Nat.zero_le _, rfl, ⟨0, fun _ => 0, ⟨rfl, .inl ⟨rfl, rfl⟩⟩, fun p q h1 h2 => by omega, fun y => ⟨fun ⟨j, hj, _⟩ => absurd hj (by omega), fun h => absurd h (by simp [nmF, allF, flat])⟩, Nat.zero_le _⟩, Below.refl _ _⟩
  case round =>
    obtain ⟨i, hin, rfl, hout, hbl⟩ := hrel
    have HOUT := Lib.hid hout
    have HBL := Lib.hid hbl
    have hws := hbl.size
    clear hout hbl
    by_cases hi : i < n
    · have hi0 : (0 : Int) ≤ (i : Int) := by omega
      have hi1 : (i : Int) < (n : Int) := by omega
      obtain ⟨pb, po, rfl, hpb, _, hpc⟩ := HA.out.1 (by rw [HL.out]; omega)
      obtain ⟨_, a1⟩ := hpc i (by rw [HL.out]; exact hi)
      obtain ⟨p, hp⟩ : ∃ p, l.getD i zeroP = p := ⟨_, rfl⟩
      rw [hp] at a1
      have HPF := Lib.hid ((HA.out.2 p (by rw [← hp]; exact getP_mem (by rw [HL.out]; exact hi))).1)
      have hpl : p.fs.length ≤ 256 := (HRP.out.2.1 p (by rw [← hp]; exact getP_mem (by rw [HL.out]; exact hi))).2.1
      have HTK := Lib.hid (allF_take (l := l) (i := i) (by rw [HL.out]; exact hi))
      rw [hp] at HTK
      have HSI := HAL.out i
      obtain ⟨S0, hS0⟩ : ∃ S0, nmF (allF (l.take i)) = S0 := ⟨_, rfl⟩
      rw [hS0] at HOUT HSI
      have HS0 := Lib.hid hS0
      obtain ⟨pid, pfs, pA, pc⟩ := p
      dsimp only at a1 HPF hpl HTK
      have A1 := Lib.hid a1
      obtain ⟨fl, hfl⟩ : ∃ fl, pfs.length = fl := ⟨_, rfl⟩
      have HM := Lib.hid hfl
      rw [hfl] at a1 hpl A1
      have a1 := (HBL.out.cell (p := ⟨pb, po + i * 2 + 1, none⟩) hpb).trans a1
      have hpw : pb < wr.heap.size := by omega
      clear hp hpc hfl hS0
      go_wp2_with ((go_at_call 17; refine Hid.out ?_))
      refine Lib.hid ?_
      refine (HR.out wr HBL.out).mono ?_
      rintro e w5 ⟨rfl, hb5⟩
      have HB5 := Lib.hid (HBL.out.trans (hb5.mono hws))
      have HO5 := Lib.hid (HOUT.out.new hb5)
      clear hb5
      go_wp2_with (fail)
      go_loopw [3, 5] (fun vo vk wr => ∃ k : Nat, k ≤ fl ∧ vk = .int .i64 k ∧ OutC wr w.heap.size vo L (S0 ++ nmF (pfs.take k)) ∧ Below w.heap.size w wr) (fun _ k _ => fl - (intOf k).toNat)
      case atStart => exact ⟨0, Nat.zero_le _, rfl, by simpa [nmF] using HO5.out, HB5.out⟩
      case round =>
        obtain ⟨k, hkf, rfl, ⟨m, z, how, hsz, hmz, hml⟩, hbl⟩ := hrel
        have HOW := Lib.hid how
        have HSZ := Lib.hid hsz
        have HMZ := Lib.hid hmz
        have HB := Lib.hid hbl
        have hws := hbl.size
        have hm4 : m ≤ 4352 := by
          rw [List.length_append] at hml
          have h1 : (nmF (pfs.take k)).length ≤ 256 := by
            unfold nmF
            rw [List.length_map, List.length_take]
            have := HM.out
            omega
          omega
        have HML := Lib.hid hml
        have a1 := (hbl.cell (p := ⟨pb, po + i * 2 + 1, none⟩) hpb).trans A1.out
        have hpw2 : pb < wr.heap.size := by omega
        clear how hsz hmz hbl hml
        by_cases hk : k < fl
        · have hk0 : (0 : Int) ≤ (k : Int) := by omega
          have hk1 : (k : Int) < (fl : Int) := by omega
          obtain ⟨fb, fo, rfl, hfb, _, hfc⟩ := HPF.out (by rw [HM.out]; omega)
          obtain ⟨_, _, _, b3⟩ := hfc k (by rw [HM.out]; exact hk)
          obtain ⟨f, hf⟩ : ∃ f, pfs.getD k zeroS = f := ⟨_, rfl⟩
          have hst := take_snocS (l := pfs) (i := k) (by rw [HM.out]; exact hk)
          rw [hf] at b3 hst
          have b3 := (HB.out.cell (p := ⟨fb, fo + k * 4 + 3, none⟩) hfb).trans b3
          have hfw : fb < wr.heap.size := by omega
          obtain ⟨x, hx⟩ : ∃ x, f.nm = x := ⟨_, rfl⟩
          rw [hx] at b3
          obtain ⟨S, hS⟩ : ∃ S, S0 ++ nmF (pfs.take k) = S := ⟨_, rfl⟩
          have HST : Hid (S0 ++ nmF (pfs.take (k + 1)) = S ++ [x]) := Lib.hid (by rw [hst, nmF_snoc, hx, ← List.append_assoc, hS])
          rw [hS] at HMZ HML
          clear hfc hf hst hx hS
          rcases own_form HOW.out with ⟨rfl, hm0⟩ | ⟨g, cap, rfl, hmc, hgB, hgw⟩
          · subst hm0
            go_wp2_with (fail)
            go_loopw [7] (fun vi wq => vi = .int .i64 0 ∧ wq = wr) (fun _ _ => 0)
            case atStart => exact ⟨rfl, rfl⟩
            case round =>
              obtain ⟨rfl, rfl⟩ := hrel
              have HLT : Hid (∀ j, j < 0 → z j < x) := Lib.hid (fun j hj => by omega)
              have HSK : Hid (SrtK (insz z 0 x) (0 + 1)) := Lib.hid (HSZ.out.ins (by omega) HLT.out (fun h => absurd h (by omega)))
              have HMK : Hid (∀ y, (∃ j, j < 0 + 1 ∧ insz z 0 x j = y) ↔ y ∈ S ++ [x]) := Lib.hid (fun y => by
                rw [ins_mem (by omega) y, HMZ.out y, List.mem_append, List.mem_singleton])
              have HTK : Hid ((cpair z L 0).take (0 * 2) = cpair z L 0) := Lib.hid (cpair_take z L (by omega))
              have HIN : Hid (cpair (insz z 0 x) L (0 + 1) = (cpair z L 0 ++ [.int .u64 x, .int .i64 (L.count x : Nat)]) ++ (cpair z L 0).drop (0 * 2)) := Lib.hid (cpair_ins z L x (by omega))
              go_wp2_with ((at_builtin; refine Hid.out ?_))
              refine Lib.hid ?_
              have HB3 : Hid (Below wr.heap.size wr (wr.alloc (Obj.cells #[] 43))) := Lib.hid ((Below.refl wr.heap.size wr).alloc (Nat.le_refl _) _)
              have HO3 : Hid ((wr.alloc (Obj.cells #[] 43)).ownsRow wr.heap.size 43 2 (.slice (some ⟨wr.heap.size, 0, none⟩) 0 0) 0 []) := Lib.hid (World.ownsRow_made (base := wr.heap.size) (e := 43) (size := 2) wr #[] 0 (Nat.le_refl _) (by decide) rfl)
              have HW3 := Lib.hid (own_new HOW.out HB3.out)
              generalize (wr.alloc (Obj.cells #[] 43)) = w3 at *
              refine wpList_append_c _ (by rfl) _ _ rfl wr.heap.size 0 _ [] rfl HO3.out none 0 0 [] rfl rfl (fun ad had => by cases had) (fun u hu => by cases hu) (fun _ => ⟨rfl, rfl⟩) (by omega) HB3.out.size ?_
              intro v4 w4 hown4 hg4
              rw [Nat.zero_add, List.nil_append] at hown4
              have HO4 := Lib.hid hown4
              have HB4 : Hid (Below wr.heap.size wr w4) := Lib.hid (HB3.out.grown hg4 HB3.out.size (own_ge HO3.out))
              have hs4 := HB4.out.size
              clear hown4 hg4
              go_wp2_with ((go_at_call 39; refine Hid.out ?_))
              refine Lib.hid ?_
              refine (HNM.out x w4 (HB.out.trans (HB4.out.mono hws))).mono ?_
              rintro e w5 ⟨rfl, hb5⟩
              have HO5 := Lib.hid (own_new HO4.out hb5)
              have HB5 := Lib.hid (HB4.out.trans (hb5.mono hs4))
              have hs5 := HB5.out.size
              clear hb5
              go_wp2_with ((at_builtin; refine Hid.out ?_))
              refine Lib.hid ?_
              have HB6 : Hid (Below w5.heap.size w5 (w5.alloc (Obj.cells #[.int .u64 x, .int .i64 (L.count x : Nat)] 43))) := Lib.hid ((Below.refl w5.heap.size w5).alloc (Nat.le_refl _) _)
              have HO6 := Lib.hid (own_new HO5.out HB6.out)
              have h2 := two_new w5 (.int .u64 x) (.int .i64 (L.count x : Nat)) 43
              refine wpList_append_c _ (by rfl) _ _ rfl wr.heap.size 0 _ (cpair z L 0) rfl HO6.out (some ⟨w5.heap.size, 0, none⟩) 1 1 [.int .u64 x, .int .i64 (L.count x : Nat)] rfl rfl ?_ (by simp [Value.oneCell']) (fun h => by cases h) (by omega) (Nat.le_trans hs5 HB6.out.size) ?_
              · intro ad had j u hu
                cases had
                match j with
                | 0 =>
                  have hu : some (Value.int .u64 x) = some u := hu
                  rw [← hu]
                  exact h2.1
                | 1 =>
                  have hu : some (Value.int .i64 (L.count x : Nat)) = some u := hu
                  rw [← hu]
                  exact h2.2
                | j + 2 => exact absurd hu (by simp)
              intro v7 w7 hown7 hg7
              have HO7 := Lib.hid hown7
              have HB7 : Hid (Below wr.heap.size wr w7) := Lib.hid ((HB5.out.trans (HB6.out.mono hs5)).grown hg7 (Nat.le_trans hs5 HB6.out.size) (own_ge HO6.out))
              have hs7 := HB7.out.size
              have HW7 := Lib.hid (own_new HOW.out HB7.out)
              clear hown7 hg7 h2
              go_wp2_with ((at_builtin; refine Hid.out ?_))
              refine Lib.hid ?_
              refine wpList_append_c _ (by rfl) _ _ rfl wr.heap.size (0 + 1) v7 (cpair z L 0 ++ [.int .u64 x, .int .i64 (L.count x : Nat)]) rfl HO7.out none 0 0 [] rfl rfl (fun ad had => by cases had) (fun u hu => by cases hu) (fun _ => ⟨rfl, rfl⟩) (by omega) hs7 ?_
              intro v8 w8 hown8 hg8
              have HB8 : Hid (Below w.heap.size w w8) := Lib.hid (HB.out.trans ((HB7.out.grown hg8 hs7 (own_ge HO7.out)).mono hws))
              have HO8 : Hid (OutC w8 w.heap.size v8 L (S ++ [x])) := Lib.hid (by
                refine ⟨0 + 1, insz z 0 x, ?_, HSK.out, HMK.out, by have := HML.out; rw [List.length_append, List.length_singleton]; omega⟩
                rw [HIN.out]
                have h := own_le hown8 hws
                simpa [cpair] using h)
              clear hown8 hg8
              go_wp2_with (fail)
              go_roundw
              case rel => exact ⟨k + 1, by omega, by first | rfl | (push_cast; rfl) | go_num, by rw [HST.out]; exact HO8.out, HB8.out⟩
              case measure => simp [intOf]; omega
          · go_wp2_with (fail)
            go_loopw [7] (fun vi wq => ∃ kk : Nat, kk ≤ m ∧ vi = .int .i64 kk ∧ (∀ j, j < kk → z j < x) ∧ wq = wr) (fun i _ => m - (intOf i).toNat)
            case atStart => exact ⟨0, Nat.zero_le _, rfl, fun j hj => by omega, rfl⟩
            case round =>
              obtain ⟨kk, hkk, rfl, hlt, rfl⟩ := hrel
              have HLT := Lib.hid hlt
              clear hlt
              have hkk0 : (0 : Int) ≤ (kk : Int) := by omega
              have hkc : (kk : Int) ≤ (cap : Int) := by omega
              have hkmI : (kk : Int) ≤ (m : Int) := by omega
              have hmcI : (m : Int) ≤ (cap : Int) := by omega
              by_cases hkm : kk < m
              · have hkk1 : (kk : Int) < (m : Int) := by omega
                obtain ⟨c0, _⟩ := cpair_at z L m kk hkm
                have c0 := (own_cell HOW.out _ _ c0).1
                obtain ⟨y, hy⟩ : ∃ y, z kk = y := ⟨_, rfl⟩
                rw [hy] at c0
                have HY := Lib.hid hy
                clear hy
                by_cases hyx : y < x
                · have HL1 : Hid (∀ j, j < kk + 1 → z j < x) := Lib.hid (fun j hj => by
                    rcases Nat.lt_or_ge j kk with h | h
                    · exact HLT.out j h
                    · obtain rfl : j = kk := by omega
                      rw [HY.out]
                      exact hyx)
                  go_wp2_with (fail)
                  go_roundw
                  case rel => exact ⟨kk + 1, by omega, by first | rfl | (push_cast; rfl) | go_num, HL1.out, by first | rfl | trivial⟩
                  case measure => simp [intOf]; omega
                · by_cases hye : y = x
                  · have HIX : Hid (OutC wr w.heap.size (.slice (some ⟨g, 0, none⟩) m cap) L (S ++ [x])) := Lib.hid ⟨m, z, HOW.out, HSZ.out, fun v => by
                      rw [HMZ.out v, List.mem_append, List.mem_singleton]
                      constructor
                      · exact Or.inl
                      · rintro (h | rfl)
                        · exact h
                        · exact (HMZ.out v).1 ⟨kk, hkm, by rw [HY.out, hye]⟩, by have := HML.out; rw [List.length_append]; omega⟩
                    rw [hye] at c0
                    clear hyx
                    go_wp2_with (fail)
                    go_roundw
                    case rel => exact ⟨k + 1, by omega, by first | rfl | (push_cast; rfl) | go_num, by rw [HST.out]; exact HIX.out, HB.out⟩
                    case measure => simp [intOf]; omega
                  · have HGT : Hid (kk < m → x < z kk) := Lib.hid (fun _ => by rw [HY.out]; omega)
                    have hyb : (y == x) = false := by simpa using hye
                    have HSK : Hid (SrtK (insz z kk x) (m + 1)) := Lib.hid (HSZ.out.ins (by omega) HLT.out (fun h => HGT.out h))
                    have HMK : Hid (∀ y, (∃ j, j < m + 1 ∧ insz z kk x j = y) ↔ y ∈ S ++ [x]) := Lib.hid (fun y => by
                      rw [ins_mem (by omega) y, HMZ.out y, List.mem_append, List.mem_singleton])
                    have HTK : Hid ((cpair z L m).take (kk * 2) = cpair z L kk) := Lib.hid (cpair_take z L (by omega))
                    have HIN : Hid (cpair (insz z kk x) L (m + 1) = (cpair z L kk ++ [.int .u64 x, .int .i64 (L.count x : Nat)]) ++ (cpair z L m).drop (kk * 2)) := Lib.hid (cpair_ins z L x (by omega))
                    go_wp2_with ((at_builtin; refine Hid.out ?_))
                    refine Lib.hid ?_
                    have HB3 : Hid (Below wr.heap.size wr (wr.alloc (Obj.cells #[] 43))) := Lib.hid ((Below.refl wr.heap.size wr).alloc (Nat.le_refl _) _)
                    have HO3 : Hid ((wr.alloc (Obj.cells #[] 43)).ownsRow wr.heap.size 43 2 (.slice (some ⟨wr.heap.size, 0, none⟩) 0 0) 0 []) := Lib.hid (World.ownsRow_made (base := wr.heap.size) (e := 43) (size := 2) wr #[] 0 (Nat.le_refl _) (by decide) rfl)
                    have HW3 := Lib.hid (own_new HOW.out HB3.out)
                    generalize (wr.alloc (Obj.cells #[] 43)) = w3 at *
                    refine wpList_append_c _ (by rfl) _ _ rfl wr.heap.size 0 _ [] rfl HO3.out (some ⟨g, 0, none⟩) kk cap (cpair z L kk) (cpair_length _ _ _) rfl (fun ad had j u hu => by
                      cases had
                      rw [Addr.add_lit, Nat.zero_add]
                      refine (own_cell HW3.out j u ?_).1
                      rw [← HTK.out, List.getElem?_take] at hu
                      split at hu
                      · exact hu
                      · cases hu) (cpair_one _ _ _) (fun h => by cases h) (by omega) HB3.out.size ?_
                    intro v4 w4 hown4 hg4
                    rw [Nat.zero_add, List.nil_append] at hown4
                    have HO4 := Lib.hid hown4
                    have HB4 : Hid (Below wr.heap.size wr w4) := Lib.hid (HB3.out.grown hg4 HB3.out.size (own_ge HO3.out))
                    have hs4 := HB4.out.size
                    clear hown4 hg4
                    go_wp2_with ((go_at_call 39; refine Hid.out ?_))
                    refine Lib.hid ?_
                    refine (HNM.out x w4 (HB.out.trans (HB4.out.mono hws))).mono ?_
                    rintro e w5 ⟨rfl, hb5⟩
                    have HO5 := Lib.hid (own_new HO4.out hb5)
                    have HB5 := Lib.hid (HB4.out.trans (hb5.mono hs4))
                    have hs5 := HB5.out.size
                    clear hb5
                    go_wp2_with ((at_builtin; refine Hid.out ?_))
                    refine Lib.hid ?_
                    have HB6 : Hid (Below w5.heap.size w5 (w5.alloc (Obj.cells #[.int .u64 x, .int .i64 (L.count x : Nat)] 43))) := Lib.hid ((Below.refl w5.heap.size w5).alloc (Nat.le_refl _) _)
                    have HO6 := Lib.hid (own_new HO5.out HB6.out)
                    have h2 := two_new w5 (.int .u64 x) (.int .i64 (L.count x : Nat)) 43
                    refine wpList_append_c _ (by rfl) _ _ rfl wr.heap.size kk _ (cpair z L kk) rfl HO6.out (some ⟨w5.heap.size, 0, none⟩) 1 1 [.int .u64 x, .int .i64 (L.count x : Nat)] rfl rfl ?_ (by simp [Value.oneCell']) (fun h => by cases h) (by omega) (Nat.le_trans hs5 HB6.out.size) ?_
                    · intro ad had j u hu
                      cases had
                      match j with
                      | 0 =>
                        have hu : some (Value.int .u64 x) = some u := hu
                        rw [← hu]
                        exact h2.1
                      | 1 =>
                        have hu : some (Value.int .i64 (L.count x : Nat)) = some u := hu
                        rw [← hu]
                        exact h2.2
                      | j + 2 => exact absurd hu (by simp)
                    intro v7 w7 hown7 hg7
                    have HO7 := Lib.hid hown7
                    have HB7 : Hid (Below wr.heap.size wr w7) := Lib.hid ((HB5.out.trans (HB6.out.mono hs5)).grown hg7 (Nat.le_trans hs5 HB6.out.size) (own_ge HO6.out))
                    have hs7 := HB7.out.size
                    have HW7 := Lib.hid (own_new HOW.out HB7.out)
                    clear hown7 hg7 h2
                    go_wp2_with ((at_builtin; refine Hid.out ?_))
                    refine Lib.hid ?_
                    refine wpList_append_c _ (by rfl) _ _ rfl wr.heap.size (kk + 1) v7 (cpair z L kk ++ [.int .u64 x, .int .i64 (L.count x : Nat)]) rfl HO7.out (some ⟨g, kk * 2, none⟩) (m - kk) (cap - kk) ((cpair z L m).drop (kk * 2)) (by rw [List.length_drop, cpair_length]; omega) rfl (fun ad had j u hu => by
                      cases had
                      rw [Addr.add_lit]
                      refine (own_cell HW7.out (kk * 2 + j) u ?_).1
                      rwa [List.getElem?_drop] at hu) (fun u hu => cpair_one _ _ _ u (List.mem_of_mem_drop hu)) (fun h => by cases h) (by omega) hs7 ?_
                    intro v8 w8 hown8 hg8
                    have HB8 : Hid (Below w.heap.size w w8) := Lib.hid (HB.out.trans ((HB7.out.grown hg8 hs7 (own_ge HO7.out)).mono hws))
                    have HO8 : Hid (OutC w8 w.heap.size v8 L (S ++ [x])) := Lib.hid (by
                      refine ⟨m + 1, insz z kk x, ?_, HSK.out, HMK.out, by have := HML.out; rw [List.length_append, List.length_singleton]; omega⟩
                      rw [HIN.out]
                      have h := own_le hown8 hws
                      rw [show kk + 1 + (m - kk) = m + 1 by omega] at h
                      exact h)
                    clear hown8 hg8
                    go_wp2_with (fail)
                    go_roundw
                    case rel => exact ⟨k + 1, by omega, by first | rfl | (push_cast; rfl) | go_num, by rw [HST.out]; exact HO8.out, HB8.out⟩
                    case measure => simp [intOf]; omega
              · have hkk1 : ¬ (kk : Int) < (m : Int) := by omega
                obtain rfl : m = kk := by omega
                by_cases hmcap : m = cap
                · subst hmcap
                  have HSK : Hid (SrtK (insz z m x) (m + 1)) := Lib.hid (HSZ.out.ins (by omega) HLT.out (fun h => absurd h (by omega)))
                  have HMK : Hid (∀ y, (∃ j, j < m + 1 ∧ insz z m x j = y) ↔ y ∈ S ++ [x]) := Lib.hid (fun y => by
                    rw [ins_mem (by omega) y, HMZ.out y, List.mem_append, List.mem_singleton])
                  have HTK : Hid ((cpair z L m).take (m * 2) = cpair z L m) := Lib.hid (cpair_take z L (by omega))
                  have HIN : Hid (cpair (insz z m x) L (m + 1) = (cpair z L m ++ [.int .u64 x, .int .i64 (L.count x : Nat)]) ++ (cpair z L m).drop (m * 2)) := Lib.hid (cpair_ins z L x (by omega))
                  go_wp2_with ((at_builtin; refine Hid.out ?_))
                  refine Lib.hid ?_
                  have HB3 : Hid (Below wr.heap.size wr (wr.alloc (Obj.cells #[] 43))) := Lib.hid ((Below.refl wr.heap.size wr).alloc (Nat.le_refl _) _)
                  have HO3 : Hid ((wr.alloc (Obj.cells #[] 43)).ownsRow wr.heap.size 43 2 (.slice (some ⟨wr.heap.size, 0, none⟩) 0 0) 0 []) := Lib.hid (World.ownsRow_made (base := wr.heap.size) (e := 43) (size := 2) wr #[] 0 (Nat.le_refl _) (by decide) rfl)
                  have HW3 := Lib.hid (own_new HOW.out HB3.out)
                  generalize (wr.alloc (Obj.cells #[] 43)) = w3 at *
                  refine wpList_append_c _ (by rfl) _ _ rfl wr.heap.size 0 _ [] rfl HO3.out (some ⟨g, 0, none⟩) m m (cpair z L m) (cpair_length _ _ _) rfl (fun ad had j u hu => by
                    cases had
                    rw [Addr.add_lit, Nat.zero_add]
                    refine (own_cell HW3.out j u ?_).1
                    rw [← HTK.out, List.getElem?_take] at hu
                    split at hu
                    · exact hu
                    · cases hu) (cpair_one _ _ _) (fun h => by cases h) (by omega) HB3.out.size ?_
                  intro v4 w4 hown4 hg4
                  rw [Nat.zero_add, List.nil_append] at hown4
                  have HO4 := Lib.hid hown4
                  have HB4 : Hid (Below wr.heap.size wr w4) := Lib.hid (HB3.out.grown hg4 HB3.out.size (own_ge HO3.out))
                  have hs4 := HB4.out.size
                  clear hown4 hg4
                  go_wp2_with ((go_at_call 39; refine Hid.out ?_))
                  refine Lib.hid ?_
                  refine (HNM.out x w4 (HB.out.trans (HB4.out.mono hws))).mono ?_
                  rintro e w5 ⟨rfl, hb5⟩
                  have HO5 := Lib.hid (own_new HO4.out hb5)
                  have HB5 := Lib.hid (HB4.out.trans (hb5.mono hs4))
                  have hs5 := HB5.out.size
                  clear hb5
                  go_wp2_with ((at_builtin; refine Hid.out ?_))
                  refine Lib.hid ?_
                  have HB6 : Hid (Below w5.heap.size w5 (w5.alloc (Obj.cells #[.int .u64 x, .int .i64 (L.count x : Nat)] 43))) := Lib.hid ((Below.refl w5.heap.size w5).alloc (Nat.le_refl _) _)
                  have HO6 := Lib.hid (own_new HO5.out HB6.out)
                  have h2 := two_new w5 (.int .u64 x) (.int .i64 (L.count x : Nat)) 43
                  refine wpList_append_c _ (by rfl) _ _ rfl wr.heap.size m _ (cpair z L m) rfl HO6.out (some ⟨w5.heap.size, 0, none⟩) 1 1 [.int .u64 x, .int .i64 (L.count x : Nat)] rfl rfl ?_ (by simp [Value.oneCell']) (fun h => by cases h) (by omega) (Nat.le_trans hs5 HB6.out.size) ?_
                  · intro ad had j u hu
                    cases had
                    match j with
                    | 0 =>
                      have hu : some (Value.int .u64 x) = some u := hu
                      rw [← hu]
                      exact h2.1
                    | 1 =>
                      have hu : some (Value.int .i64 (L.count x : Nat)) = some u := hu
                      rw [← hu]
                      exact h2.2
                    | j + 2 => exact absurd hu (by simp)
                  intro v7 w7 hown7 hg7
                  have HO7 := Lib.hid hown7
                  have HB7 : Hid (Below wr.heap.size wr w7) := Lib.hid ((HB5.out.trans (HB6.out.mono hs5)).grown hg7 (Nat.le_trans hs5 HB6.out.size) (own_ge HO6.out))
                  have hs7 := HB7.out.size
                  have HW7 := Lib.hid (own_new HOW.out HB7.out)
                  clear hown7 hg7 h2
                  go_wp2_with ((at_builtin; refine Hid.out ?_))
                  refine Lib.hid ?_
                  refine wpList_append_c _ (by rfl) _ _ rfl wr.heap.size (m + 1) v7 (cpair z L m ++ [.int .u64 x, .int .i64 (L.count x : Nat)]) rfl HO7.out (some _) 0 _ [] rfl rfl (fun ad had j u hu => by cases hu) (fun u hu => by cases hu) (fun h => by cases h) (by omega) hs7 ?_
                  intro v8 w8 hown8 hg8
                  have HB8 : Hid (Below w.heap.size w w8) := Lib.hid (HB.out.trans ((HB7.out.grown hg8 hs7 (own_ge HO7.out)).mono hws))
                  have HO8 : Hid (OutC w8 w.heap.size v8 L (S ++ [x])) := Lib.hid (by
                    refine ⟨m + 1, insz z m x, ?_, HSK.out, HMK.out, by have := HML.out; rw [List.length_append, List.length_singleton]; omega⟩
                    rw [HIN.out]
                    have h := own_le hown8 hws
                    rw [List.drop_eq_nil_of_le (by rw [cpair_length]; exact Nat.le_refl _)]
                    exact h)
                  clear hown8 hg8
                  go_wp2_with (fail)
                  go_roundw
                  case rel => exact ⟨k + 1, by omega, by first | rfl | (push_cast; rfl) | go_num, by rw [HST.out]; exact HO8.out, HB8.out⟩
                  case measure => simp [intOf]; omega
                · have hmcl : (m : Int) < (cap : Int) := by omega
                  have hmcn : m < cap := by omega
                  have HSK : Hid (SrtK (insz z m x) (m + 1)) := Lib.hid (HSZ.out.ins (by omega) HLT.out (fun h => absurd h (by omega)))
                  have HMK : Hid (∀ y, (∃ j, j < m + 1 ∧ insz z m x j = y) ↔ y ∈ S ++ [x]) := Lib.hid (fun y => by
                    rw [ins_mem (by omega) y, HMZ.out y, List.mem_append, List.mem_singleton])
                  have HTK : Hid ((cpair z L m).take (m * 2) = cpair z L m) := Lib.hid (cpair_take z L (by omega))
                  have HIN : Hid (cpair (insz z m x) L (m + 1) = (cpair z L m ++ [.int .u64 x, .int .i64 (L.count x : Nat)]) ++ (cpair z L m).drop (m * 2)) := Lib.hid (cpair_ins z L x (by omega))
                  go_wp2_with ((at_builtin; refine Hid.out ?_))
                  refine Lib.hid ?_
                  have HB3 : Hid (Below wr.heap.size wr (wr.alloc (Obj.cells #[] 43))) := Lib.hid ((Below.refl wr.heap.size wr).alloc (Nat.le_refl _) _)
                  have HO3 : Hid ((wr.alloc (Obj.cells #[] 43)).ownsRow wr.heap.size 43 2 (.slice (some ⟨wr.heap.size, 0, none⟩) 0 0) 0 []) := Lib.hid (World.ownsRow_made (base := wr.heap.size) (e := 43) (size := 2) wr #[] 0 (Nat.le_refl _) (by decide) rfl)
                  have HW3 := Lib.hid (own_new HOW.out HB3.out)
                  generalize (wr.alloc (Obj.cells #[] 43)) = w3 at *
                  refine wpList_append_c _ (by rfl) _ _ rfl wr.heap.size 0 _ [] rfl HO3.out (some ⟨g, 0, none⟩) m cap (cpair z L m) (cpair_length _ _ _) rfl (fun ad had j u hu => by
                    cases had
                    rw [Addr.add_lit, Nat.zero_add]
                    refine (own_cell HW3.out j u ?_).1
                    rw [← HTK.out, List.getElem?_take] at hu
                    split at hu
                    · exact hu
                    · cases hu) (cpair_one _ _ _) (fun h => by cases h) (by omega) HB3.out.size ?_
                  intro v4 w4 hown4 hg4
                  rw [Nat.zero_add, List.nil_append] at hown4
                  have HO4 := Lib.hid hown4
                  have HB4 : Hid (Below wr.heap.size wr w4) := Lib.hid (HB3.out.grown hg4 HB3.out.size (own_ge HO3.out))
                  have hs4 := HB4.out.size
                  clear hown4 hg4
                  go_wp2_with ((go_at_call 39; refine Hid.out ?_))
                  refine Lib.hid ?_
                  refine (HNM.out x w4 (HB.out.trans (HB4.out.mono hws))).mono ?_
                  rintro e w5 ⟨rfl, hb5⟩
                  have HO5 := Lib.hid (own_new HO4.out hb5)
                  have HB5 := Lib.hid (HB4.out.trans (hb5.mono hs4))
                  have hs5 := HB5.out.size
                  clear hb5
                  go_wp2_with ((at_builtin; refine Hid.out ?_))
                  refine Lib.hid ?_
                  have HB6 : Hid (Below w5.heap.size w5 (w5.alloc (Obj.cells #[.int .u64 x, .int .i64 (L.count x : Nat)] 43))) := Lib.hid ((Below.refl w5.heap.size w5).alloc (Nat.le_refl _) _)
                  have HO6 := Lib.hid (own_new HO5.out HB6.out)
                  have h2 := two_new w5 (.int .u64 x) (.int .i64 (L.count x : Nat)) 43
                  refine wpList_append_c _ (by rfl) _ _ rfl wr.heap.size m _ (cpair z L m) rfl HO6.out (some ⟨w5.heap.size, 0, none⟩) 1 1 [.int .u64 x, .int .i64 (L.count x : Nat)] rfl rfl ?_ (by simp [Value.oneCell']) (fun h => by cases h) (by omega) (Nat.le_trans hs5 HB6.out.size) ?_
                  · intro ad had j u hu
                    cases had
                    match j with
                    | 0 =>
                      have hu : some (Value.int .u64 x) = some u := hu
                      rw [← hu]
                      exact h2.1
                    | 1 =>
                      have hu : some (Value.int .i64 (L.count x : Nat)) = some u := hu
                      rw [← hu]
                      exact h2.2
                    | j + 2 => exact absurd hu (by simp)
                  intro v7 w7 hown7 hg7
                  have HO7 := Lib.hid hown7
                  have HB7 : Hid (Below wr.heap.size wr w7) := Lib.hid ((HB5.out.trans (HB6.out.mono hs5)).grown hg7 (Nat.le_trans hs5 HB6.out.size) (own_ge HO6.out))
                  have hs7 := HB7.out.size
                  have HW7 := Lib.hid (own_new HOW.out HB7.out)
                  clear hown7 hg7 h2
                  go_wp2_with ((at_builtin; refine Hid.out ?_))
                  refine Lib.hid ?_
                  refine wpList_append_c _ (by rfl) _ _ rfl wr.heap.size (m + 1) v7 (cpair z L m ++ [.int .u64 x, .int .i64 (L.count x : Nat)]) rfl HO7.out (some ⟨g, m * 2, none⟩) 0 (cap - m) ((cpair z L m).drop (m * 2)) (by rw [List.length_drop, cpair_length]; omega) rfl (fun ad had j u hu => by
                    cases had
                    rw [Addr.add_lit]
                    refine (own_cell HW7.out (m * 2 + j) u ?_).1
                    rwa [List.getElem?_drop] at hu) (fun u hu => cpair_one _ _ _ u (List.mem_of_mem_drop hu)) (fun h => by cases h) (by omega) hs7 ?_
                  intro v8 w8 hown8 hg8
                  have HB8 : Hid (Below w.heap.size w w8) := Lib.hid (HB.out.trans ((HB7.out.grown hg8 hs7 (own_ge HO7.out)).mono hws))
                  have HO8 : Hid (OutC w8 w.heap.size v8 L (S ++ [x])) := Lib.hid (by
                    refine ⟨m + 1, insz z m x, ?_, HSK.out, HMK.out, by have := HML.out; rw [List.length_append, List.length_singleton]; omega⟩
                    rw [HIN.out]
                    have h := own_le hown8 hws
                    exact h)
                  clear hown8 hg8
                  go_wp2_with (fail)
                  go_roundw
                  case rel => exact ⟨k + 1, by omega, by first | rfl | (push_cast; rfl) | go_num, by rw [HST.out]; exact HO8.out, HB8.out⟩
                  case measure => simp [intOf]; omega
        · obtain rfl : fl = k := by omega
          have HOE : Hid (OutC wr w.heap.size u3 L (nmF (allF (l.take (i + 1))))) := Lib.hid ⟨m, z, HOW.out, HSZ.out, by
            have h := HMZ.out
            rw [List.take_of_length_le (by rw [HM.out]; exact Nat.le_refl _), ← HS0.out, ← nmF_app, ← HTK.out] at h
            exact h, by
            have h := HML.out
            rw [List.take_of_length_le (by rw [HM.out]; exact Nat.le_refl _), ← HS0.out, ← nmF_app, ← HTK.out] at h
            exact h⟩
          go_wp2_with (fail)
          go_roundw
          case rel => exact ⟨i + 1, by omega, by first | rfl | (push_cast; rfl) | go_num, HOE.out, HB.out⟩
          case measure => simp [intOf]; omega
    · obtain rfl : n = i := by omega
      have HOE : Hid (OutC wr w.heap.size u3 L (nmF (allF l))) := Lib.hid (by
        have h := HOUT.out
        rw [List.take_of_length_le (by rw [HL.out]; exact Nat.le_refl _)] at h
        exact h)
      go_wp2_with (fail)
      go_ret
      exact ⟨_, rfl, HOE.out, HBL.out⟩
end Go.Proofs.Ytmalcekbhnkfgaa
