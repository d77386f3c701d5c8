/- What Do asks of a good model; the three events of the document's example. Conditions: as each theorem states them. -/
import Derived.Test.YtfojblbnhapedaaGreatDoorR2
namespace Go.Proofs.YtfojblbnhapedaaGreatDoor
open Go.RowKit Go.Maps
set_option linter.unusedVariables false
set_option linter.unusedSimpArgs false

theorem evK_key {e : Ev} (h : evK e) : e.key.size ≤ 64 := by
  rcases h with ⟨_, h⟩ | ⟨_, h, _⟩ | ⟨_, h, _⟩
  · exact h
  · rw [h]; decide
  · rw [h]; decide
theorem rec_good {M : Md} {e : Ev} (hj : jobP M.j) (h : GoodL M.j (plain M.L)) (hb : evB M.j.sources e) (hk : evK e) (hv : i64 e.v) : GoodL M.j (M.rec_ e).1 := by
  unfold Md.rec_
  split
  · have h1 := h.recs (was := M.mks.now) hv (fun c hc => (chs_ok hj h hb.2.2.1 hb.2.2.2 (evK_key hk) c hc).1) (chs_pair M e.key e.t M.mks.now M.j.ops.length) _ (Nat.le_refl _)
    rw [List.take_length] at h1
    exact h1
  · exact h
theorem l2_good {M : Md} {e : Ev} (hj : jobP M.j) (h : GoodL M.j (plain M.L)) (hb : evB M.j.sources e) (hk : evK e) (hv : i64 e.v) : GoodL M.j (M.l2 e) := (rec_good hj h hb hk hv).pass _ _
theorem mkDoH {w : World} {B : Lo} {M : Md} {F : Int → List Int → ByteArray} {okT : Int → List Int → Prop} {e : Ev} (ok : OkMd M) (hg : GoodL M.j (plain M.L)) (hl : M.L.length ≤ 1024) (ht : tot (plain M.L) ≤ 900000) (hd : 0 ≤ M.dr ∧ M.dr ≤ 1000000000000) (hkz : okN e.key) (hv : i64 e.v) (HT : ToldOk w B F okT)
    (ok1 : evB M.j.sources e → evK e → ¬ M.long e → ∀ o ∈ (M.rec_ e).2, okT (M.aggAt o.1) o.2) (ok2 : evB M.j.sources e → evK e → ¬ M.long e → ∀ o ∈ M.o2 e, okT (M.aggAt o.1) o.2) : DoH w B M F okT e :=
  ⟨ok, good_okL hg hl, ht, hd, hkz, fun hb hk h1 c hc => chs_good ok.job hg hl hb.2.2.1 hb.2.2.2 (evK_key hk) c hc, HT, ok1, ok2, fun hb hk _ y hy => by
    have h1 := (rec_good ok.job hg hb hk hv).pn y hy
    have h2 := may_bd.1 h1.may
    dsimp only at h2
    exact ⟨by omega, h1.op⟩⟩
theorem do_any {w : World} {B : Lo} {M : Md} {F : Int → List Int → ByteArray} {okT : Int → List Int → Prop} {e : Ev} (h : MdAt w B M) (H : DoH w B M F okT e) : Calls Tryz.prog 24 #[ptrV B.bm, evV e] w (DoR w B M F e) := by
  by_cases hc : evB M.j.sources e ∧ evK e
  · rcases hc.2 with ⟨hk, _⟩ | ⟨hk, _⟩ | ⟨hk, _⟩
    · exact do_rec B M e w F okT h H hk hc
    · exact do_mark B M e w F okT h H hk hc
    · exact do_idle B M e w F okT h H hk hc
  · refine (do_bad B M e w h H.ok H.key hc).mono fun r w' hr => ?_
    unfold DoR
    rw [if_pos hc]
    exact hr
/-- The example's text of values: how many there are. -/
def FX (_ : Int) (vs : List Int) : ByteArray := digit vs.length
def okX (g : Int) (vs : List Int) : Prop := g = 1 ∧ (vs.length = 1 ∨ vs.length = 2)
theorem toldX (w : World) (B : Lo) : ToldOk w B FX okX := by
  intro W g r vs hk hr ho
  obtain ⟨rfl, hn⟩ := ho
  have hl := hr.2.1
  refine agg_any 1 0 (by decide) rfl (rwV r) (FX 1 vs) W (fun W' hb => ?_)
  unfold FX rwV
  rw [← hl]
  exact (count_any (some ⟨r.b, 0, none⟩) r.n r.c (by omega) W').mono fun e w' ⟨he, hw⟩ => ⟨he, hw ▸ Below.refl _ _⟩
theorem okMX (n : Int) (h1 : -1125899906842624 ≤ n) (h2 : n ≤ 1125899906842624) : OkM (kA n) := by
  refine ⟨by show 1 ≤ 1; decide, by show 1 ≤ 16; decide, by show (_ :: List.replicate 15 _).length = 16; simp, by show (0 : Int) ≤ 0; decide, by show (0 : Int) ≤ 1099511627776; decide, fun p hp => ?_, h1, h2⟩
  have hp : p ∈ (n, false) :: List.replicate 15 (0, false) := hp
  rcases List.mem_cons.1 hp with rfl | hp
  · dsimp only; omega
  · rw [(List.mem_replicate.1 hp).2]; decide
theorem jobX (A : Option Addr) (c : Nat) : jobP (JX A c) := by
  have h : jobP (JX none 0) := by decide +kernel
  exact h
theorem okMdX (A : Option Addr) (c : Nat) (hc : 1 ≤ c) (hcb : c ≤ 9223372036854775807) (n : Int) (h1 : -1125899906842624 ≤ n) (h2 : n ≤ 1125899906842624) (L : List Pn) (d : Int) : OkMd ⟨JX A c, kA n, L, d⟩ :=
  ⟨okMX n h1 h2, jobX A c, hc, hcb, by show (0 : Int) ≤ 5 ∧ (5 : Int) ≤ 1099511627776; decide⟩
theorem goodX0 (A : Option Addr) (c : Nat) : GoodL (JX A c) [] := ⟨List.Pairwise.nil, (fun y h => by cases h), (fun y h => by cases h), (fun y h => by cases h)⟩
theorem ev1 : evB 1 E1 ∧ evK E1 := by decide +kernel
theorem ev2 : evB 1 E2 ∧ evK E2 := by decide +kernel
theorem ev3 : evB 1 E3 ∧ evK E3 := by decide +kernel
theorem goodX1 (A : Option Addr) (c : Nat) (L : List Pn) (hL : plain L = []) : GoodL (JX A c) [(p0, [0])] := by
  have h := l2_good (M := ⟨JX A c, kA (-1125899906842624), L, 0⟩) (e := E1) (jobX A c) (by rw [show plain (⟨JX A c, kA (-1125899906842624), L, 0⟩ : Md).L = [] from hL]; exact goodX0 A c) ev1.1 ev1.2 (by unfold i64; decide)
  rw [l2_1 A c L hL] at h
  exact h
theorem goodX2 (A : Option Addr) (c : Nat) (L : List Pn) (hL : plain L = [(p0, [0])]) (hg : GoodL (JX A c) [(p0, [0])]) : GoodL (JX A c) [(p0, [0]), (p1, [0])] := by
  have h := l2_good (M := ⟨JX A c, kA 2, L, 0⟩) (e := E2) (jobX A c) (by rw [show plain (⟨JX A c, kA 2, L, 0⟩ : Md).L = [(p0, [0])] from hL]; exact hg) ev2.1 ev2.2 (by unfold i64; decide)
  rw [l2_2 A c L hL] at h
  exact h
theorem longX (A : Option Addr) (c : Nat) (m : Mk) (L : List Pn) (e : Ev) (w : Int × Int) (hw : winsL 1 10 0 e.t = [w]) (hg : ¬ w.2 - 1 + 5 ≤ m.now) (hl : (plain L).length ≤ 2) : ¬ Md.long ⟨JX A c, m, L, 0⟩ e := by
  rintro ⟨_, h⟩
  rw [chsX A c m L 0 e w hw hg] at h
  rw [plain_len] at hl
  have h : 1024 < (L.length : Int) + cntC [_] := h
  unfold cntC at h
  simp only [List.map_cons, List.map_nil, List.sum_cons, List.sum_nil] at h
  omega
theorem drX (A : Option Addr) (c : Nat) (m : Mk) (L : List Pn) (e : Ev) (w : Int × Int) (he : e.k = 1) (hw : winsL 1 10 0 e.t = [w]) (hg : ¬ w.2 - 1 + 5 ≤ m.now) : Md.dr2 ⟨JX A c, m, L, 0⟩ e = 0 := by
  unfold Md.dr2
  rw [if_pos he]
  have h : drO (⟨JX A c, m, L, 0⟩ : Md) e.t m.now 1 = 0 := by
    show 0 + drW _ m.now (opW _ e.t 0) = 0
    have ho : opW (⟨JX A c, m, L, 0⟩ : Md) e.t 0 = [w] := hw
    rw [ho]
    unfold drW
    have e : decide (w.2 - 1 + (⟨JX A c, m, L, 0⟩ : Md).j.late ≤ m.now) = false := decide_eq_false hg
    rw [List.filter_cons, e, if_neg (by decide)]
    rfl
  show (0 : Int) + ((drO _ e.t m.now 1 : Nat) : Int) = 0
  rw [h]
  rfl
theorem okNka : okN ka := by unfold okN; decide
theorem aggX (A : Option Addr) (c : Nat) (m : Mk) (L : List Pn) (d : Int) (p : Pl) (h : p.op = 0) : Md.aggAt ⟨JX A c, m, L, d⟩ p = 1 := by
  unfold Md.aggAt
  rw [h]
  rfl
/-- What an event of the example answers and leaves. -/
def XR (w : World) (B : Lo) (A : Option Addr) (c : Nat) (n : Int) (P : PL) (outs : List Value) (k : Nat) (r : Ending) (w' : World) : Prop :=
  ∃ v L', r = .returned (.tuple #[v, .int .i64 0]) ∧ w'.ownsRow w.heap.size 56 6 v k outs ∧ plain L' = P ∧ MdAt w' B ⟨JX A c, kA n, L', 0⟩ ∧ Kw (S3 B) w w'
theorem do1 (w : World) (B : Lo) (A : Option Addr) (c : Nat) (hc : 1 ≤ c) (hcb : c ≤ 9223372036854775807) (L : List Pn) (hL : plain L = []) (h : MdAt w B ⟨JX A c, kA (-1125899906842624), L, 0⟩) : Calls Tryz.prog 24 #[ptrV B.bm, evV E1] w (XR w B A c 2 [(p0, [0])] [] 0) := by
  have hll : L.length = 0 := by rw [← plain_len, hL]; rfl
  have H : DoH w B ⟨JX A c, kA (-1125899906842624), L, 0⟩ FX okX E1 := mkDoH (okMdX A c hc hcb _ (by decide) (by decide) L 0) (by rw [show plain (⟨JX A c, kA (-1125899906842624), L, 0⟩ : Md).L = [] from hL]; exact goodX0 A c) (by show L.length ≤ 1024; omega) (by show tot (plain L) ≤ 900000; rw [hL]; decide) (by show (0 : Int) ≤ 0 ∧ (0 : Int) ≤ 1000000000000; decide) okNka (by unfold i64; decide) (toldX w B) (fun _ _ _ o ho => by rw [rec1 A c L hL] at ho; cases ho) (fun _ _ _ o ho => by rw [o2_1 A c L hL] at ho; cases ho)
  refine (do_any h H).mono fun r w' hr => ?_
  unfold DoR at hr
  rw [if_neg (fun h => h ev1), if_neg (longX A c _ L E1 (0, 10) w1X (by decide) (by rw [hL]; decide))] at hr
  obtain ⟨v, L', h1, h2, h3, h4, h5⟩ := hr
  rw [l2_1 A c L hL] at h3
  unfold Md.ocells at h2
  rw [rec1 A c L hL, o2_1 A c L hL] at h2
  rw [mk1, drX A c _ L E1 (0, 10) rfl w1X (by decide)] at h4
  exact ⟨v, L', h1, h2, h3, h4, h5⟩
theorem do2 (w : World) (B : Lo) (A : Option Addr) (c : Nat) (hc : 1 ≤ c) (hcb : c ≤ 9223372036854775807) (L : List Pn) (hL : plain L = [(p0, [0])]) (hg : GoodL (JX A c) [(p0, [0])]) (h : MdAt w B ⟨JX A c, kA 2, L, 0⟩) : Calls Tryz.prog 24 #[ptrV B.bm, evV E2] w (XR w B A c 11 [(p0, [0]), (p1, [0])] [.int .i64 0, .string ka, .int .i64 0, .int .i64 10, .string (digit 1), .bool false] 1) := by
  have hll : L.length = 1 := by rw [← plain_len, hL]; rfl
  have H : DoH w B ⟨JX A c, kA 2, L, 0⟩ FX okX E2 := mkDoH (okMdX A c hc hcb _ (by decide) (by decide) L 0) (by rw [show plain (⟨JX A c, kA 2, L, 0⟩ : Md).L = _ from hL]; exact hg) (by show L.length ≤ 1024; omega) (by show tot (plain L) ≤ 900000; rw [hL]; decide) (by show (0 : Int) ≤ 0 ∧ (0 : Int) ≤ 1000000000000; decide) okNka (by unfold i64; decide) (toldX w B) (fun _ _ _ o ho => by rw [rec2 A c L hL] at ho; cases ho) (fun _ _ _ o ho => by
    rw [o2_2 A c L hL] at ho
    rw [List.mem_singleton.1 ho]
    exact ⟨aggX A c _ L 0 p0 rfl, .inl rfl⟩)
  refine (do_any h H).mono fun r w' hr => ?_
  unfold DoR at hr
  rw [if_neg (fun h => h ev2), if_neg (longX A c _ L E2 (10, 20) w2X (by decide) (by rw [hL]; decide))] at hr
  obtain ⟨v, L', h1, h2, h3, h4, h5⟩ := hr
  rw [l2_2 A c L hL] at h3
  unfold Md.ocells at h2
  rw [rec2 A c L hL, o2_2 A c L hL] at h2
  rw [mk2_, drX A c _ L E2 (10, 20) rfl w2X (by decide)] at h4
  exact ⟨v, L', h1, h2, h3, h4, h5⟩
theorem do3 (w : World) (B : Lo) (A : Option Addr) (c : Nat) (hc : 1 ≤ c) (hcb : c ≤ 9223372036854775807) (L : List Pn) (hL : plain L = [(p0, [0]), (p1, [0])]) (hg : GoodL (JX A c) [(p0, [0]), (p1, [0])]) (h : MdAt w B ⟨JX A c, kA 11, L, 0⟩) : Calls Tryz.prog 24 #[ptrV B.bm, evV E3] w (XR w B A c 11 [(p1, [0]), (p0, [0, 0])] [.int .i64 0, .string ka, .int .i64 0, .int .i64 10, .string (digit 2), .bool true] 1) := by
  have hll : L.length = 2 := by rw [← plain_len, hL]; rfl
  have H : DoH w B ⟨JX A c, kA 11, L, 0⟩ FX okX E3 := mkDoH (okMdX A c hc hcb _ (by decide) (by decide) L 0) (by rw [show plain (⟨JX A c, kA 11, L, 0⟩ : Md).L = _ from hL]; exact hg) (by show L.length ≤ 1024; omega) (by show tot (plain L) ≤ 900000; rw [hL]; decide) (by show (0 : Int) ≤ 0 ∧ (0 : Int) ≤ 1000000000000; decide) okNka (by unfold i64; decide) (toldX w B) (fun _ _ _ o ho => by
    rw [rec3 A c L hL] at ho
    rw [List.mem_singleton.1 ho]
    exact ⟨aggX A c _ L 0 p0 rfl, .inr rfl⟩) (fun _ _ _ o ho => by rw [o2_3 A c L hL] at ho; cases ho)
  refine (do_any h H).mono fun r w' hr => ?_
  unfold DoR at hr
  rw [if_neg (fun h => h ev3), if_neg (longX A c _ L E3 (0, 10) w3X (by decide) (by rw [hL]; decide))] at hr
  obtain ⟨v, L', h1, h2, h3, h4, h5⟩ := hr
  rw [l2_3 A c L hL] at h3
  unfold Md.ocells at h2
  rw [rec3 A c L hL, o2_3 A c L hL] at h2
  rw [mk3, drX A c _ L E3 (0, 10) rfl w3X (by decide)] at h4
  exact ⟨v, L', h1, h2, h3, h4, h5⟩
end Go.Proofs.YtfojblbnhapedaaGreatDoor
