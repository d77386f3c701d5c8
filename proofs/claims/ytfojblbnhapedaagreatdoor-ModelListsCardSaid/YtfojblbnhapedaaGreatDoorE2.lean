/- Contract of model.told. Conditions: as each theorem states them. -/
import Derived.Test.YtfojblbnhapedaaGreatDoorD1
import Derived.Maps.OwnSet
import Derived.Maps.OwnOps
import Derived.Carry
import Derived.DeepKeys4
namespace Go.Proofs.YtfojblbnhapedaaGreatDoor
open Go.RowKit Go.Maps
set_option linter.unusedVariables false
set_option linter.unusedSimpArgs false

theorem c105 : Tryz.prog.cellsOf 105 = 4 := by kernel_rfl
theorem c54 : Tryz.prog.cellsOf 54 = 2 := by kernel_rfl
theorem c2 : Tryz.prog.cellsOf 2 = 1 := by kernel_rfl
theorem c3 : Tryz.prog.cellsOf 3 = 1 := by kernel_rfl
theorem c9 : Tryz.prog.cellsOf 9 = 1 := by kernel_rfl
theorem kl_int (N : Nat) (t : Int) (ht : (Lit.int .i64 t).wf = true) : Program.keyLits Tryz.prog (N + 1) 2 [.int .i64 t] = some [.int .i64 t] := by
  unfold Program.keyLits
  simp [Tryz.underlying2, ht]
theorem kl_int3 (N : Nat) (t : Int) (ht : (Lit.int .i64 t).wf = true) : Program.keyLits Tryz.prog (N + 1) 3 [.int .i64 t] = some [.int .i64 t] := by
  unfold Program.keyLits
  simp [Tryz.underlying3, ht]
theorem kl_str (N : Nat) (k : ByteArray) (hk : k.size ≤ maxLen) : Program.keyLits Tryz.prog (N + 1) 9 [.string k] = some [.string k.data.toList] := by
  unfold Program.keyLits
  simp [Tryz.underlying9, hk]
theorem kl_win (N : Nat) (f t : Int) (hf : (Lit.int .i64 f).wf = true) (ht : (Lit.int .i64 t).wf = true) : Program.keyLits Tryz.prog (N + 1 + 1) 54 [.int .i64 f, .int .i64 t] = some [.int .i64 f, .int .i64 t] := by
  unfold Program.keyLits
  simp [Tryz.underlying54, c54, c2, kl_int N f hf, kl_int N t ht]
theorem kl_place (N : Nat) (o : Int) (k : ByteArray) (f t : Int) (ho : (Lit.int .i64 o).wf = true) (hk : k.size ≤ maxLen) (hf : (Lit.int .i64 f).wf = true) (ht : (Lit.int .i64 t).wf = true) : Program.keyLits Tryz.prog (N + 1 + 1 + 1) 105 [.int .i64 o, .string k, .int .i64 f, .int .i64 t] = some [.int .i64 o, .string k.data.toList, .int .i64 f, .int .i64 t] := by
  unfold Program.keyLits
  simp [Tryz.underlying105, c105, c3, c9, c54, kl_int3 (N + 1) o ho, kl_str (N + 1) k hk, kl_win N f t hf ht]
/-- A place. -/
structure Pl where
  op : Int
  key : ByteArray
  f : Int
  t : Int
def plV (x : Pl) : Value := .agg #[.int .i64 x.op, .string x.key, .int .i64 x.f, .int .i64 x.t]
/-- A place that may be a key. -/
def okPl (x : Pl) : Prop := (-9223372036854775808 ≤ x.op ∧ x.op < 9223372036854775808) ∧ x.key.size ≤ maxLen ∧ (-9223372036854775808 ≤ x.f ∧ x.f < 9223372036854775808) ∧ -9223372036854775808 ≤ x.t ∧ x.t < 9223372036854775808
theorem wf64 {x : Int} (h : -9223372036854775808 ≤ x ∧ x < 9223372036854775808) : (Lit.int .i64 x).wf = true := by
  have h1 : IntKind.min .i64 = -9223372036854775808 := by decide
  have h2 : IntKind.max .i64 = 9223372036854775807 := by decide
  show (decide (IntKind.min .i64 ≤ x) && decide (x ≤ IntKind.max .i64)) = true
  rw [h1, h2, Bool.and_eq_true, decide_eq_true_eq, decide_eq_true_eq]
  omega
theorem key_isSome {x : Pl} (h : okPl x) : (keyOf Tryz.prog 105 (plV x)).isSome = true := by
  obtain ⟨o, k, f, t⟩ := x
  obtain ⟨ho, hk, hf, ht⟩ := h
  dsimp only at ho hk hf ht
  have h1 : Tryz.prog.keyType 105 = true := by kernel_rfl
  have h2 : (Value.agg #[.int .i64 o, .string k, .int .i64 f, .int .i64 t]).formed Tryz.prog 105 = true := by
    simp [Value.formed, Tryz.underlying105, c105]
  obtain ⟨N, hN⟩ : ∃ N, Tryz.prog.types.size + 1 = N + 1 + 1 + 1 := ⟨Tryz.prog.types.size - 2, by have : 1 < Tryz.prog.types.size := of_decide_eq_true (by kernel_rfl); omega⟩
  unfold keyOf plV
  simp only [Tryz.underlying105, h1, h2, hN, Bool.and_self, if_true]
  have : (Value.agg #[.int .i64 o, .string k, .int .i64 f, .int .i64 t]).cells.toList = [.int .i64 o, .string k, .int .i64 f, .int .i64 t] := rfl
  rw [this, kl_place N o k f t (wf64 ho) hk (wf64 hf) (wf64 ht)]
  rfl
theorem lawK : WideMaps.KeyLaw Tryz.prog 105 := deep_law_laid (by kernel_rfl) (m := 3) (by omega) (of_decide_eq_true (by kernel_rfl)) (by kernel_rfl) (by kernel_rfl)
theorem keyK : Keyed Tryz.prog 105 := Keyed.of_law lawK
theorem u85 : Tryz.prog.underlying 85 = some (.map 105 135) := by kernel_rfl
theorem zero135 (w : World) : (zeroValue 135).run Tryz.prog w = .ok (.slice none 0 0) w := by kernel_rfl
noncomputable def klP (x : Pl) : Lit := (keyOf Tryz.prog 105 (plV x)).getD (.bool false)
theorem key_some {x : Pl} (h : okPl x) : keyOf Tryz.prog 105 (plV x) = some (klP x) := by
  have h1 := key_isSome h
  unfold klP
  obtain ⟨l, hl⟩ := Option.isSome_iff_exists.1 h1
  rw [hl]
  rfl
theorem kl_inj {x y : Pl} (hx : okPl x) (hy : okPl y) (h : klP x = klP y) : x = y := by
  have h1 := key_some hx
  have h2 := key_some hy
  rw [h] at h1
  have := keyK.inj h1 h2
  simp [plV] at this
  cases x; cases y
  simp_all
theorem kl_key {x : Pl} (hx : okPl x) : WideAt.IsKeyLit (klP x) := by
  have h := key_some hx
  generalize klP x = l at h ⊢
  exact keyK.key h
attribute [irreducible] klP
/-- A row of values: its block, how many, and for how many there is room. -/
structure Rw where
  b : Nat
  n : Nat
  c : Nat
def rwV (r : Rw) : Value := .slice (some ⟨r.b, 0, none⟩) r.n r.c
def rwD (r : Rw) : DataW Unit := .agg [.lit (.int .i64 r.b), .lit (.int .i64 r.n), .lit (.int .i64 r.c)]
/-- How an element reads: its row. -/
def RQ : Value → Option (DataW Unit × List MemPlace)
  | .slice none 0 0 => some (.nil, [])
  | .slice (some a) n c => if a.off = 0 ∧ a.spot = none then some (rwD ⟨a.block, n, c⟩, []) else none
  | _ => none
theorem RQ_row (r : Rw) : RQ (rwV r) = some (rwD r, []) := by simp [RQ, rwV]
theorem RQ_nil : RQ (.slice none 0 0) = some (.nil, []) := rfl
theorem RQ_nil_inv {v : Value} {ps : List MemPlace} (h : RQ v = some (.nil, ps)) : v = .slice none 0 0 := by
  unfold RQ at h
  split at h
  · rfl
  · split at h <;> simp [rwD] at h
  · cases h
theorem RQ_row_inv {v : Value} {r : Rw} {ps : List MemPlace} (h : RQ v = some (rwD r, ps)) : v = rwV r := by
  unfold RQ at h
  split at h
  · simp [rwD] at h
  · rename_i a n c
    split at h
    · rename_i hh
      obtain ⟨b', o, s⟩ := a
      obtain ⟨b, n', c'⟩ := r
      simp [rwD] at h hh
      obtain ⟨rfl, rfl⟩ := hh
      obtain ⟨⟨h1, h2, h3⟩, _⟩ := h
      have e1 : b' = b := by omega
      have e2 : n = n' := by omega
      have e3 : c = c' := by omega
      subst e1 e2 e3
      rfl
    · cases h
  · cases h
/-- Block m is a map of the places of L, each with its row. -/
def MapAt (w : World) (m : Nat) (L : List (Pl × Rw)) : Prop :=
  (∀ b ∈ L, okPl b.1) ∧ ∃ D : DataW Unit, w.ownsMap Tryz.prog 105 RQ m L.length D ∧ size D = L.length ∧ (∀ b ∈ L, has D (klP b.1) = true ∧ D.atKey (klP b.1) .nil = rwD b.2) ∧ ∀ x, okPl x → (∀ b ∈ L, b.1 ≠ x) → has D (klP x) = false
theorem own_tight {w : World} {m n : Nat} {D : DataW Unit} (h : w.ownsMap Tryz.prog 105 RQ m n D) : w.ownsMap Tryz.prog 105 RQ m (size D) D := by
  obtain ⟨es, clock, hb, F, hs, rfl⟩ := h
  exact ⟨es, clock, hb, F, by simp [size, length_sorted], rfl⟩
theorem MapAt.lt {w : World} {m : Nat} {L : List (Pl × Rw)} (h : MapAt w m L) : m < w.heap.size := by
  obtain ⟨_, D, h1, _⟩ := h
  exact h1.lt
theorem MapAt.made (w : World) : MapAt (w.alloc (.map #[] 0)) w.heap.size [] :=
  ⟨by simp, .map [], World.ownsMap_made w _ _ _, rfl, by simp, fun x _ _ => rfl⟩
theorem MapAt.kw {w w' : World} {S : Nat → Prop} {m : Nat} {L : List (Pl × Rw)} (h : MapAt w m L) (k : Kw S w w') (hm : ¬ S m) : MapAt w' m L := by
  obtain ⟨h0, D, ho, h1⟩ := h
  have hlt := ho.lt
  obtain ⟨es, clock, hb, F, hs, hD⟩ := ho
  exact ⟨h0, D, ⟨es, clock, (k.block m hlt hm).trans hb, F, hs, hD⟩, h1⟩
theorem MapAt.perm {w : World} {m : Nat} {L L' : List (Pl × Rw)} (h : MapAt w m L) (hp : L'.Perm L) : MapAt w m L' := by
  obtain ⟨h0, D, ho, h1, h2, h3⟩ := h
  have hl := hp.length_eq
  exact ⟨fun b hb => h0 b (hp.mem_iff.1 hb), D, hl ▸ ho, by omega, fun b hb => h2 b (hp.mem_iff.1 hb), fun x hx hn => h3 x hx (fun b hb => hn b (hp.mem_iff.2 hb))⟩
/-- What stands at a timer: the block, or nothing. -/
theorem MapAt.look {w : World} {m : Nat} {L : List (Pl × Rw)} (h : MapAt w m L) {x : Pl} (hx : okPl x) (u : Value) (hu : (∃ b ∈ L, b.1 = x ∧ u = rwV b.2) ∨ ((∀ b ∈ L, b.1 ≠ x) ∧ u = .slice none 0 0)) :
    (Instr.lookup 85 (.map (some m)) (plV x) false).run Tryz.prog w = .ok u w := by
  obtain ⟨h0, D, ho, h1, h2, h3⟩ := h
  obtain ⟨v, ps, hrun, hv⟩ := ho.lookup keyK u85 (zero135 w) RQ_nil (key_some hx)
  rcases hu with ⟨b, hb, rfl, rfl⟩ | ⟨hn, rfl⟩
  · rw [(h2 b hb).2] at hv
    rw [hrun, RQ_row_inv hv]
  · rw [atKey_of_not_has (h3 x hx hn)] at hv
    rw [hrun, RQ_nil_inv hv]
theorem MapAt.len {w : World} {m : Nat} {L : List (Pl × Rw)} (h : MapAt w m L) (ty : TypeId) : (Builtin.len_ #[85] ty #[.map (some m)]).run Tryz.prog w = .ok (.int .i64 L.length) w := by
  obtain ⟨h0, D, ho, h1, h2, h3⟩ := h
  rw [ho.len u85 ty, h1]
theorem turned_kw {w w' : World} {m : Nat} {S : Nat → Prop} (h : w.mapTurned w' m) (hS : S m) : Kw S w w' :=
  (Kw.refl S w).grown h.grown (fun k hk => by cases hk; exact hS)
theorem MapAt.put {w : World} {m : Nat} {L : List (Pl × Rw)} (h : MapAt w m L) (b : Pl × Rw) (hb : okPl b.1) (hn : ∀ c ∈ L, c.1 ≠ b.1) (hL : L.length < maxLen) :
    ∃ w', (Instr.mapUpdate 85 (.map (some m)) (plV b.1) (rwV b.2)).run Tryz.prog w = .ok () w' ∧ MapAt w' m (b :: L) ∧ w.mapTurned w' m := by
  obtain ⟨h0, D, ho, h1, h2, h3⟩ := h
  obtain ⟨w', hrun, ho', ht⟩ := ho.store keyK u85 hL (key_some hb) (RQ_row b.2)
  have hD := ho.tidy keyK
  refine ⟨w', hrun, ⟨?_, D.put (klP b.1) (rwD b.2), ho', ?_, ?_, ?_⟩, ht⟩
  · intro c hc
    rcases List.mem_cons.1 hc with rfl | hc
    · exact hb
    · exact h0 c hc
  · rw [size_put hD, h3 _ hb hn, h1]
    simp
  · intro c hc
    rcases List.mem_cons.1 hc with rfl | hc
    · exact ⟨has_put_same hD.isMap (kl_key hb) _, atKey_put_same hD.isMap (kl_key hb) _ _⟩
    · have hne : klP c.1 ≠ klP b.1 := fun e => hn c hc (kl_inj (h0 c hc) hb e)
      rw [has_put_other hne, atKey_put_other hne]
      exact h2 c hc
  · intro x hx hnx
    have hne : klP x ≠ klP b.1 := fun e => hnx b (by simp) (kl_inj hx hb e).symm
    rw [has_put_other hne]
    exact h3 x hx (fun c hc => hnx c (by simp [hc]))
theorem MapAt.del {w : World} {m : Nat} {L : List (Pl × Rw)} (h : MapAt w m L) (b : Pl × Rw) (L' : List (Pl × Rw)) (hp : L.Perm (b :: L')) (hinj : ∀ c ∈ L', c.1 ≠ b.1) (ty : TypeId) :
    ∃ w', (Builtin.delete_ #[85, 105] ty #[.map (some m), plV b.1]).run Tryz.prog w = .ok (.tuple #[]) w' ∧ MapAt w' m L' ∧ w.mapTurned w' m := by
  have h := h.perm hp.symm
  obtain ⟨h0, D, ho, h1, h2, h3⟩ := h
  have hb := h0 b (by simp)
  obtain ⟨w', hrun, ho', ht⟩ := ho.drop keyK u85 (key_some hb) ty
  have hD := ho.tidy keyK
  have hsz : size (D.del (klP b.1)) = L'.length := by
    have := size_del (k := klP b.1) hD
    rw [(h2 b (by simp)).1, h1] at this
    simpa using this
  refine ⟨w', hrun, ⟨fun c hc => h0 c (by simp [hc]), D.del (klP b.1), hsz ▸ own_tight ho', hsz, ?_, ?_⟩, ht⟩
  · intro c hc
    have hne : klP c.1 ≠ klP b.1 := fun e => hinj c hc (kl_inj (h0 c (by simp [hc])) hb e)
    rw [has_del_other hne, atKey_del_other hne]
    exact h2 c (by simp [hc])
  · intro x hx hnx
    by_cases e : klP x = klP b.1
    · rw [e]
      exact has_del_same
    · rw [has_del_other e]
      refine h3 x hx (fun c hc => ?_)
      rcases List.mem_cons.1 hc with rfl | hc
      · intro e'
        exact e (by rw [e'])
      · exact hnx c hc
end Go.Proofs.YtfojblbnhapedaaGreatDoor
namespace Go.Proofs.YtfojblbnhapedaaGreatDoor
open Go.RowKit Go.Maps
set_option linter.unusedVariables false
set_option linter.unusedSimpArgs false

/-- One digit. -/
def digit (n : Nat) : ByteArray := ⟨#[(48 + n.toUInt8)]⟩
set_option maxRecDepth 100000 in
set_option maxHeartbeats 4000000 in
theorem small_any (n : Nat) (h : n = 1 ∨ n = 2) (w : World) : Calls Tryz.prog 167 #[.int .i64 n] w fun e w' => e = .returned (.string (digit n)) ∧ w = w' := by
  rcases h with rfl | rfl
  · go_enter Tryz.func167, Tryz.ntmps167
    go_wp2_with (fail)
    go_ret
    exact ⟨rfl, rfl⟩
  · go_enter Tryz.func167, Tryz.ntmps167
    go_wp2_with (fail)
    go_ret
    exact ⟨rfl, rfl⟩
set_option maxRecDepth 100000 in
set_option maxHeartbeats 4000000 in
theorem fmt_any (n : Nat) (h : n = 1 ∨ n = 2) (w : World) : Calls Tryz.prog 155 #[.int .i64 n, .int .i64 10] w fun e w' => e = .returned (.string (digit n)) ∧ w = w' := by
  have HS := Lib.hid (small_any n h w)
  have h0 : (0 : Int) ≤ (n : Int) := by omega
  have h1 : (n : Int) < 100 := by omega
  clear h
  go_enter Tryz.func155, Tryz.ntmps155
  go_wp2_with (fail)
  refine HS.out.mono ?_
  rintro e w' ⟨rfl, rfl⟩
  go_wp2_with (fail)
  go_ret
  exact ⟨rfl, rfl⟩
set_option maxRecDepth 100000 in
set_option maxHeartbeats 4000000 in
theorem number_any (n : Nat) (h : n = 1 ∨ n = 2) (w : World) : Calls Tryz.prog 123 #[.int .i64 n] w fun e w' => e = .returned (.string (digit n)) ∧ w = w' := by
  have HS := Lib.hid (fmt_any n h w)
  have HF : Hid (Calls Tryz.prog 148 #[.int .i64 n, .int .i64 10] w fun e w' => e = .returned (.string (digit n)) ∧ w = w') := Lib.hid (by
    clear h
    go_enter Tryz.func148, Tryz.ntmps148
    go_wp2_with (fail)
    refine HS.out.mono ?_
    rintro e w' ⟨rfl, rfl⟩
    go_wp2_with (fail)
    go_ret
    exact ⟨rfl, rfl⟩)
  clear h HS
  go_enter Tryz.func123, Tryz.ntmps123
  go_wp2_with (fail)
  refine HF.out.mono ?_
  rintro e w' ⟨rfl, rfl⟩
  go_wp2_with (fail)
  go_ret
  exact ⟨rfl, rfl⟩
set_option maxRecDepth 100000 in
set_option maxHeartbeats 4000000 in
theorem count_any (A : Option Addr) (n c : Nat) (h : n = 1 ∨ n = 2) (w : World) : Calls Tryz.prog 93 #[.slice A n c] w fun e w' => e = .returned (.string (digit n)) ∧ w = w' := by
  have HS := Lib.hid (number_any n h w)
  clear h
  go_enter Tryz.func93, Tryz.ntmps93
  go_wp2_with (fail)
  refine HS.out.mono ?_
  rintro e w' ⟨rfl, rfl⟩
  go_wp2_with (fail)
  go_ret
  exact ⟨rfl, rfl⟩
end Go.Proofs.YtfojblbnhapedaaGreatDoor
namespace Go.Proofs.YtfojblbnhapedaaGreatDoor
open Go.RowKit Go.Maps
set_option linter.unusedVariables false
set_option linter.unusedSimpArgs false

def fnV (f : Nat) (s : Value) : Value := .func (.func f) #[s] #[]
theorem fnV_inj {f g : Nat} {s : Value} (h : fnV f s = fnV g s) : f = g := by
  unfold fnV at h
  simpa using h
open Classical in
/-- How a function of the table reads: its number. -/
noncomputable def RF (s v : Value) : Option (DataW Unit × List MemPlace) :=
  if v = .nilFunc then some (.nil, []) else if h : ∃ f : Nat, v = fnV f s then some (.lit (.int .i64 (h.choose : Nat)), []) else none
theorem RF_nil (s : Value) : RF s .nilFunc = some (.nil, []) := by unfold RF; rw [if_pos rfl]
theorem RF_fn (s : Value) (f : Nat) : RF s (fnV f s) = some (.lit (.int .i64 f), []) := by
  unfold RF
  have h : ∃ g : Nat, fnV f s = fnV g s := ⟨f, rfl⟩
  rw [if_neg (by unfold fnV; exact fun h => by cases h), dif_pos h]
  have := fnV_inj h.choose_spec
  rw [← this]
theorem RF_inv {s v : Value} {f : Nat} {ps : List MemPlace} (h : RF s v = some (.lit (.int .i64 f), ps)) : v = fnV f s := by
  unfold RF at h
  split at h
  · simp at h
  · split at h
    · rename_i hh
      simp at h
      have := hh.choose_spec
      rw [this]
      congr 1
      omega
    · cases h
theorem u169 : Tryz.prog.underlying 169 = some (.map 3 168) := by kernel_rfl
theorem zero168 (w : World) : (zeroValue 168).run Tryz.prog w = .ok .nilFunc w := by kernel_rfl
theorem key3 : Keyed Tryz.prog 3 := int_keyed Tryz.underlying3
theorem kl3 (k : Nat) (h : k ≤ 100) : keyOf Tryz.prog 3 (.int .i64 k) = some (.int .i64 k) := keyOf_int_mk Tryz.underlying3 (wf64 (by omega))
noncomputable def DF : Nat → DataW Unit
  | 0 => .map []
  | k + 1 => (DF k).put (.int .i64 (k + 1 : Nat)) (.lit (.int .i64 (93 + k : Nat)))
theorem DF_map : ∀ k, IsMap (DF k)
  | 0 => isMap_empty
  | k + 1 => by
    obtain ⟨es, h⟩ := DF_map k
    unfold DF
    rw [h]
    exact ⟨_, rfl⟩
theorem DF_at (z : DataW Unit) : ∀ (k : Nat) (a : Nat), a < k → (DF k).atKey (.int .i64 (a + 1 : Nat)) z = .lit (.int .i64 (93 + a : Nat))
  | 0, a, h => absurd h (Nat.not_lt_zero _)
  | k + 1, a, h => by
    unfold DF
    by_cases e : a = k
    · subst e
      exact atKey_put_same (DF_map a) (k := .int .i64 ((a + 1 : Nat) : Int)) trivial _ _
    · rw [atKey_put_other (by intro h2; injection h2 with _ h3; omega)]
      exact DF_at z k a (by omega)
theorem put_step (s : Value) (w : World) (m k : Nat) (hk : k ≤ 8) (h : w.ownsMap Tryz.prog 3 (RF s) m k (DF k)) :
    ∃ w', (Instr.mapUpdate 169 (.map (some m)) (.int .i64 (k + 1 : Nat)) (fnV (93 + k) s)).run Tryz.prog w = .ok () w' ∧ w'.ownsMap Tryz.prog 3 (RF s) m (k + 1) (DF (k + 1)) ∧ w.grownBy w' (some m) := by
  obtain ⟨w', h1, h2, h3⟩ := h.store key3 u169 (by unfold maxLen; omega) (kl3 (k + 1) (by omega)) (RF_fn s (93 + k))
  exact ⟨w', h1, h2, h3.grown⟩
set_option maxRecDepth 100000 in
set_option maxHeartbeats 8000000 in
theorem agg_any (g : Int) (a : Nat) (ha : a < 8) (hg : g = ((a + 1 : Nat) : Int)) (s : Value) (r : ByteArray) (w : World) (HS : ∀ W, Below w.heap.size w W → Calls Tryz.prog (93 + a) #[s] W fun e w' => e = .returned (.string r) ∧ Below W.heap.size W w') : Calls Tryz.prog 75 #[.int .i64 g, s] w fun e w' => e = .returned (.string r) ∧ Below w.heap.size w w' := by
  have hmm := @run_makeMap Tryz.prog
  have h0 : (w.alloc (.map #[] 0)).ownsMap Tryz.prog 3 (RF s) w.heap.size 0 (DF 0) := World.ownsMap_made w _ _ _
  have k0 : Below w.heap.size w (w.alloc (.map #[] 0)) := bl_alloc (Below.refl _ _) _
  obtain ⟨w1, r1, h1, g1⟩ := put_step s _ _ 0 (by omega) h0
  obtain ⟨w2, r2, h2, g2⟩ := put_step s _ _ 1 (by omega) h1
  obtain ⟨w3, r3, h3, g3⟩ := put_step s _ _ 2 (by omega) h2
  obtain ⟨w4, r4, h4, g4⟩ := put_step s _ _ 3 (by omega) h3
  obtain ⟨w5, r5, h5, g5⟩ := put_step s _ _ 4 (by omega) h4
  obtain ⟨w6, r6, h6, g6⟩ := put_step s _ _ 5 (by omega) h5
  obtain ⟨w7, r7, h7, g7⟩ := put_step s _ _ 6 (by omega) h6
  obtain ⟨w8, r8, h8, g8⟩ := put_step s _ _ 7 (by omega) h7
  have HB : Hid (Below w.heap.size w w8) := Lib.hid (by
    have f : ∀ k, some w.heap.size = some k → w.heap.size ≤ k := fun k hk => by cases hk; exact Nat.le_refl _
    have b1 := k0.grown g1 k0.size f
    have b2 := b1.grown g2 b1.size f
    have b3 := b2.grown g3 b2.size f
    have b4 := b3.grown g4 b3.size f
    have b5 := b4.grown g5 b4.size f
    have b6 := b5.grown g6 b5.size f
    have b7 := b6.grown g7 b6.size f
    exact b7.grown g8 b7.size f)
  obtain ⟨v, ps, hl, hv⟩ := h8.lookup key3 u169 (zero168 w8) (RF_nil s) (kl3 (a + 1) (by omega))
  rw [DF_at .nil 8 a ha] at hv
  rw [RF_inv hv] at hl
  have HC := Lib.hid (HS w8 HB.out)
  have q1 : (Instr.mapUpdate 169 (.map (some w.heap.size)) (.int .i64 1) (.func (.func 93) #[s] #[])).run Tryz.prog (w.alloc (.map #[] 0)) = .ok () w1 := r1
  have q2 : (Instr.mapUpdate 169 (.map (some w.heap.size)) (.int .i64 2) (.func (.func 94) #[s] #[])).run Tryz.prog w1 = .ok () w2 := r2
  have q3 : (Instr.mapUpdate 169 (.map (some w.heap.size)) (.int .i64 3) (.func (.func 95) #[s] #[])).run Tryz.prog w2 = .ok () w3 := r3
  have q4 : (Instr.mapUpdate 169 (.map (some w.heap.size)) (.int .i64 4) (.func (.func 96) #[s] #[])).run Tryz.prog w3 = .ok () w4 := r4
  have q5 : (Instr.mapUpdate 169 (.map (some w.heap.size)) (.int .i64 5) (.func (.func 97) #[s] #[])).run Tryz.prog w4 = .ok () w5 := r5
  have q6 : (Instr.mapUpdate 169 (.map (some w.heap.size)) (.int .i64 6) (.func (.func 98) #[s] #[])).run Tryz.prog w5 = .ok () w6 := r6
  have q7 : (Instr.mapUpdate 169 (.map (some w.heap.size)) (.int .i64 7) (.func (.func 99) #[s] #[])).run Tryz.prog w6 = .ok () w7 := r7
  have q8 : (Instr.mapUpdate 169 (.map (some w.heap.size)) (.int .i64 8) (.func (.func 100) #[s] #[])).run Tryz.prog w7 = .ok () w8 := r8
  unfold fnV at hl
  rw [← hg] at hl
  clear hg r1 r2 r3 r4 r5 r6 r7 r8 hv h0 k0 h1 h2 h3 h4 h5 h6 h7 h8 g1 g2 g3 g4 g5 g6 g7 g8 HS
  go_enter Tryz.func75, Tryz.ntmps75
  go_wp2_with (fail)
  have ha8 : a = 0 ∨ a = 1 ∨ a = 2 ∨ a = 3 ∨ a = 4 ∨ a = 5 ∨ a = 6 ∨ a = 7 := by omega
  clear hmm q1 q2 q3 q4 q5 q6 q7 q8 hl
  rcases ha8 with rfl | rfl | rfl | rfl | rfl | rfl | rfl | rfl
  all_goals (
    simp only [Nat.reduceAdd] at HC ⊢
    go_wp2_with (fail)
    refine HC.out.mono ?_
    rintro e w' ⟨rfl, hb⟩
    have HB2 := Lib.hid (bl_then HB.out hb)
    clear hb
    go_wp2_with (fail)
    go_ret
    exact ⟨rfl, HB2.out⟩)
end Go.Proofs.YtfojblbnhapedaaGreatDoor
