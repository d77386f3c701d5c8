/- Contract of the reference's without. Conditions: as each theorem states them. -/
import Derived.Test.YtjgiohlkpenipaaG6
namespace Go.Proofs.Ytjgiohlkpenipaa
open Go.RowKit Go.Maps
set_option linter.unusedVariables false
set_option linter.unusedSimpArgs false

theorem und48 : Try.prog.underlying 48 = some (.slice 97) := by kernel_rfl
theorem und49 : Try.prog.underlying 49 = some (.slice 104) := by kernel_rfl
theorem und50 : Try.prog.underlying 50 = some (.slice 100) := by kernel_rfl
theorem i97 : (Try.prog.info? 97).map (fun i => (i.zero, i.size, i.bytes)) = some (some (.agg #[.string ⟨#[]⟩, .int .i64 0]), 2, 24) := by kernel_rfl
theorem i104 : (Try.prog.info? 104).map (fun i => (i.zero, i.size, i.bytes)) = some (some (.agg #[.string ⟨#[]⟩, .int .i64 0]), 2, 24) := by kernel_rfl
theorem i100 : (Try.prog.info? 100).map (fun i => (i.zero, i.size, i.bytes)) = some (some (.agg #[.int .i64 0, .string ⟨#[]⟩, .string ⟨#[]⟩, .int .i64 0]), 4, 48) := by kernel_rfl
/-- Files, entries and changes as cells. -/
def fcells (l : List Fl) : List Value := l.flatMap fun f => [.string f.data, .int .i64 f.sure]
def ecells (l : Dir) : List Value := l.flatMap fun p => [.string p.1, .int .i64 p.2]
def kindC (c : Ch) : Int := if c.frm = ByteArray.empty then 1 else if c.to = ByteArray.empty then 3 else 2
def ccells (l : List Ch) : List Value := l.flatMap fun c => [.int .i64 (kindC c), .string c.frm, .string c.to, .int .i64 c.fi]
theorem flat_len {α : Type} (g : α → List Value) (k : Nat) (hg : ∀ a, (g a).length = k) (l : List α) : (l.flatMap g).length = l.length * k := by
  induction l with
  | nil => simp
  | cons a l ih =>
    rw [List.flatMap_cons, List.length_append, hg, ih, List.length_cons, Nat.succ_mul]
    omega
theorem flat_at {α : Type} (g : α → List Value) (k : Nat) (hg : ∀ a, (g a).length = k) : ∀ (l : List α) (i : Nat) (h : i < l.length) (j : Nat), j < k → (l.flatMap g)[i * k + j]? = (g l[i])[j]?
  | [], i, h, _, _ => absurd h (Nat.not_lt_zero _)
  | a :: l, 0, h, j, hj => by
    rw [List.flatMap_cons, List.getElem?_append_left (by rw [hg]; omega)]
    simp
  | a :: l, i + 1, h, j, hj => by
    rw [List.flatMap_cons, List.getElem?_append_right (by rw [hg, Nat.succ_mul]; omega), hg]
    have e : (i + 1) * k + j - k = i * k + j := by rw [Nat.succ_mul]; omega
    rw [e, flat_at g k hg l i (by simpa using h) j hj]
    rfl
theorem fcells_len (l : List Fl) : (fcells l).length = l.length * 2 := flat_len _ 2 (fun _ => rfl) l
theorem ecells_len (l : Dir) : (ecells l).length = l.length * 2 := flat_len _ 2 (fun _ => rfl) l
theorem ccells_len (l : List Ch) : (ccells l).length = l.length * 4 := flat_len _ 4 (fun _ => rfl) l
theorem fcells_at {l : List Fl} {i : Nat} (h : i < l.length) : (fcells l)[i * 2]? = some (.string (l[i]).data) ∧ (fcells l)[i * 2 + 1]? = some (.int .i64 (l[i]).sure) :=
  ⟨flat_at _ 2 (fun _ => rfl) l i h 0 (by omega), flat_at _ 2 (fun _ => rfl) l i h 1 (by omega)⟩
theorem ecells_at {l : Dir} {i : Nat} (h : i < l.length) : (ecells l)[i * 2]? = some (.string (l[i]).1) ∧ (ecells l)[i * 2 + 1]? = some (.int .i64 (l[i]).2) :=
  ⟨flat_at _ 2 (fun _ => rfl) l i h 0 (by omega), flat_at _ 2 (fun _ => rfl) l i h 1 (by omega)⟩
theorem ccells_at {l : List Ch} {i : Nat} (h : i < l.length) : (ccells l)[i * 4]? = some (.int .i64 (kindC l[i])) ∧ (ccells l)[i * 4 + 1]? = some (.string (l[i]).frm) ∧ (ccells l)[i * 4 + 2]? = some (.string (l[i]).to) ∧ (ccells l)[i * 4 + 3]? = some (.int .i64 (l[i]).fi) :=
  ⟨flat_at _ 4 (fun _ => rfl) l i h 0 (by omega), flat_at _ 4 (fun _ => rfl) l i h 1 (by omega), flat_at _ 4 (fun _ => rfl) l i h 2 (by omega), flat_at _ 4 (fun _ => rfl) l i h 3 (by omega)⟩
/-- A row as a slice value: what a walk needs. -/
theorem own_slice {W : World} {B e sz n : Nat} {v : Value} {xs : List Value} (h : W.ownsRow B e sz v n xs) : ∃ A c, v = .slice A n c ∧ n ≤ c ∧ (n = 0 ∨ ∃ g, A = some ⟨g, 0, none⟩) := by
  rcases h.2 with ⟨e, e2⟩ | ⟨g, c, cur, e, _, _, h3, _⟩
  · exact ⟨none, 0, by rw [e, e2], by omega, .inl e2⟩
  · exact ⟨_, c, e, h3, .inr ⟨g, rfl⟩⟩
theorem row_cells {W : World} {B e sz g n c : Nat} {xs : List Value} (h : W.ownsRow B e sz (.slice (some ⟨g, 0, none⟩) n c) n xs) : g < W.heap.size ∧ B ≤ g ∧ (∀ k u, xs[k]? = some u → W.cell? ⟨g, k, none⟩ = some u) ∧ (∀ k, W.frozen? ⟨g, k, none⟩ = false) ∧ n ≤ c := by
  rcases h.2 with ⟨h0, _⟩ | ⟨g', c', cur, h0, h1, h2, h3, h4, h5, h6⟩
  · cases h0
  · cases h0
    refine ⟨(Array.getElem?_eq_some_iff.1 h2).1, h1, fun k u hu => ?_, fun k => froz_of h2 k, h3⟩
    rw [← h6] at hu
    have hj := (List.getElem?_eq_some_iff.1 hu).1
    rw [List.length_take] at hj
    rw [List.getElem?_take_of_lt (by omega), Array.getElem?_toList] at hu
    exact (cell_of h2 k).trans hu
theorem row_base {W : World} {B B' e sz n : Nat} {v : Value} {xs : List Value} (h : W.ownsRow B e sz v n xs) (hB : B' ≤ B) : W.ownsRow B' e sz v n xs := by
  refine ⟨h.1, ?_⟩
  rcases h.2 with h0 | ⟨g, c, cur, h0, h1, r⟩
  · exact .inl h0
  · exact .inr ⟨g, c, cur, h0, by omega, r⟩
/-- Where the reference's slices lie. -/
structure Rv where
  f : Value
  d : Value
  k : Value
  w : Value
/-- The slices hold the disk s. -/
structure RowsAt (w : World) (v : Rv) (s : DS) : Prop where
  f : w.ownsRow 0 97 2 v.f s.files.length (fcells s.files)
  d : w.ownsRow 0 104 2 v.d s.dir.length (ecells s.dir)
  k : w.ownsRow 0 104 2 v.k s.kept.length (ecells s.kept)
  w : w.ownsRow 0 100 4 v.w s.waits.length (ccells s.waits)
def rcells (s : DS) (v : Rv) : Array Value := #[.int .i64 s.room, .int .i64 s.steps, .int .i64 s.fuse, .bool s.down, v.f, v.d, v.k, v.w]
/-- At block b the reference's disk s. -/
def RefAt (w : World) (b : Nat) (v : Rv) (s : DS) : Prop := w.heap[b]? = some (Obj.cells (rcells s v) 52) ∧ RowsAt w v s
theorem RowsAt.kw {w w' : World} {S : Nat → Prop} {v : Rv} {s : DS} (h : RowsAt w v s) (k : Kw S w w') (hS : ∀ b, S b → ∃ cs fz, w.heap[b]? = some (Obj.cells cs 52 fz)) : RowsAt w' v s := by
  have hne : ∀ {e sz n : Nat} {u : Value} {xs : List Value} (h : w.ownsRow 0 e sz u n xs), e ≠ 52 → ∀ g, u.ownBlock = some g → ¬ S g := fun {e sz n u xs} h he g hg hs => by
    obtain ⟨_, cur, h3⟩ := own_blk h hg
    obtain ⟨cs, fz, h4⟩ := hS g hs
    rw [h3] at h4
    cases h4
    exact he rfl
  exact ⟨own_kw h.f k (hne h.f (by decide)), own_kw h.d k (hne h.d (by decide)), own_kw h.k k (hne h.k (by decide)), own_kw h.w k (hne h.w (by decide))⟩
theorem RowsAt.below {w w' : World} {v : Rv} {s : DS} (h : RowsAt w v s) (k : Below w.heap.size w w') : RowsAt w' v s := h.kw (Kw.ofBelow (S := fun _ => False) k) (fun _ e => e.elim)
theorem RefAt.below {w w' : World} {b : Nat} {v : Rv} {s : DS} (h : RefAt w b v s) (k : Below w.heap.size w w') : RefAt w' b v s :=
  ⟨(k.block b (Array.getElem?_eq_some_iff.1 h.1).1).trans h.1, h.2.below k⟩
theorem RefAt.lt {w : World} {b : Nat} {v : Rv} {s : DS} (h : RefAt w b v s) : b < w.heap.size := (Array.getElem?_eq_some_iff.1 h.1).1
theorem RefAt.c {w : World} {b : Nat} {v : Rv} {s : DS} (h : RefAt w b v s) : w.cell? ⟨b, 0, none⟩ = some (.int .i64 s.room) ∧ w.cell? ⟨b, 1, none⟩ = some (.int .i64 s.steps) ∧ w.cell? ⟨b, 2, none⟩ = some (.int .i64 s.fuse) ∧ w.cell? ⟨b, 3, none⟩ = some (.bool s.down) ∧ w.cell? ⟨b, 4, none⟩ = some v.f ∧ w.cell? ⟨b, 5, none⟩ = some v.d ∧ w.cell? ⟨b, 6, none⟩ = some v.k ∧ w.cell? ⟨b, 7, none⟩ = some v.w :=
  ⟨cell_of h.1 0, cell_of h.1 1, cell_of h.1 2, cell_of h.1 3, cell_of h.1 4, cell_of h.1 5, cell_of h.1 6, cell_of h.1 7⟩
theorem RefAt.fz {w : World} {b : Nat} {v : Rv} {s : DS} (h : RefAt w b v s) (i : Nat) : w.frozen? ⟨b, i, none⟩ = false := froz_of h.1 i
/-- The disk's struct as a value. -/
def refV (s : DS) (v : Rv) : Value := .agg (rcells s v)
end Go.Proofs.Ytjgiohlkpenipaa
namespace Go.Proofs.Ytjgiohlkpenipaa
open Go.RowKit Go.Maps
set_option linter.unusedVariables false
set_option linter.unusedSimpArgs false

/-- The number of a name's file; -1: there is none. -/
def findI (l : Dir) (n : ByteArray) : Int := match look l n with
  | some i => i
  | none => -1
theorem look_at {l : Dir} {n : ByteArray} : ∀ {i : Nat} (h : i < l.length), (l[i]).1 = n → (∀ j (hj : j < i), (l[j]'(by omega)).1 ≠ n) → look l n = some (l[i]).2 := by
  induction l with
  | nil => intro i h; exact absurd h (Nat.not_lt_zero _)
  | cons p l ih =>
    intro i h he hn
    cases i with
    | zero =>
      have he : p.1 = n := he
      unfold look
      rw [List.find?_cons_of_pos (by simpa using he)]
      rfl
    | succ i =>
      have hp : p.1 ≠ n := hn 0 (by omega)
      have h1 := ih (i := i) (by simpa using h) he (fun j hj => hn (j + 1) (by omega))
      unfold look at h1 ⊢
      rw [List.find?_cons_of_neg (by simpa using hp)]
      exact h1
theorem look_not {l : Dir} {n : ByteArray} (h : ∀ j (hj : j < l.length), (l[j]).1 ≠ n) : look l n = none := by
  unfold look
  rw [Option.map_eq_none_iff, List.find?_eq_none]
  intro p hp
  obtain ⟨j, hj, rfl⟩ := List.mem_iff_getElem.1 hp
  simpa using h j hj
set_option maxRecDepth 100000 in
set_option maxHeartbeats 4000000 in
theorem find_any (v : Value) (l : Dir) (n : ByteArray) (w : World) (h : w.ownsRow 0 104 2 v l.length (ecells l)) (hl : l.length ≤ 1000001) : Calls Try.prog 73 #[v, .string n] w fun e w' => e = .returned (.int .i64 (findI l n)) ∧ w = w' := by
  obtain ⟨A, c, rfl, hc, hg⟩ := own_slice h
  obtain ⟨N, hN⟩ : ∃ N, l.length = N := ⟨_, rfl⟩
  rw [hN] at h hl hc hg ⊢
  have H := Lib.hid h
  have HN := Lib.hid hN
  have HG := Lib.hid hg
  clear h hN hg
  go_enter Try.func73, Try.ntmps73
  go_wp2_with (fail)
  go_loopw [5] (fun vi wr => ∃ i : Nat, i ≤ N ∧ vi = .int .i64 i ∧ (∀ j (hj : j < l.length), j < i → (l[j]).1 ≠ n) ∧ wr = w) (fun i _ => N - (intOf i).toNat)
  case atStart => exact ⟨0, Nat.zero_le _, rfl, fun j hj h => absurd h (Nat.not_lt_zero _), rfl⟩
  case round =>
    obtain ⟨i, hin, rfl, hno, rfl⟩ := hrel
    have HNO := Lib.hid hno
    clear hno
    by_cases hi : i < N
    · have hi0 : (0 : Int) ≤ (i : Int) := by omega
      have hi1 : (i : Int) < (N : Int) := by omega
      obtain ⟨g, rfl⟩ : ∃ g, A = some ⟨g, 0, none⟩ := by
        rcases HG.out with h0 | h0
        · omega
        · exact h0
      have hil : i < l.length := by have := HN.out; omega
      obtain ⟨gl, _, gc, _, _⟩ := row_cells H.out
      obtain ⟨e0, e1⟩ := ecells_at hil
      have r0 := gc _ _ e0
      have r1 := gc _ _ e1
      clear gc e0 e1
      by_cases he : (l[i]).1 = n
      · rw [he] at r0
        have HE : Hid (findI l n = (l[i]).2) := Lib.hid (by
          unfold findI
          rw [look_at hil he (fun j hj => HNO.out j (by omega) hj)])
        obtain ⟨k, hk⟩ : ∃ k, (l[i]).2 = k := ⟨_, rfl⟩
        rw [hk] at r1 HE
        clear he hk hil
        go_wp2_with (fail)
        go_ret
        exact ⟨by rw [HE.out]; rfl, rfl⟩
      · have HNE := Lib.hid he
        have hnb := tl_ne he
        obtain ⟨x, hx⟩ : ∃ x, (l[i]).1 = x := ⟨_, rfl⟩
        rw [hx] at r0 hnb
        clear he hx r1
        go_wp2_with (fail)
        exact ⟨⟨i + 1, by omega, by push_cast; rfl, fun j hj hji => by
          rcases Nat.lt_or_ge j i with h | h
          · exact HNO.out j hj h
          · have : j = i := by omega
            subst this
            exact HNE.out, trivial⟩, by simp [intOf]; omega⟩
    · have hi1 : ¬ (i : Int) < (N : Int) := by omega
      have HE : Hid (findI l n = -1) := Lib.hid (by
        unfold findI
        rw [look_not (fun j hj => HNO.out j hj (by have := HN.out; omega))])
      go_wp2_with (fail)
      go_ret
      exact ⟨by rw [HE.out]; rfl, rfl⟩
set_option maxRecDepth 100000 in
set_option maxHeartbeats 4000000 in
theorem rnamed_any (n : ByteArray) (w : World) (hz : okN n) : Calls Try.prog 72 #[.string n] w fun e w' => e = .returned (.bool (decide (named n))) ∧ w = w' := by
  obtain ⟨m, hm⟩ : ∃ m, n.size = m := ⟨_, rfl⟩
  have hmz : m ≤ 9223372036854775807 := by unfold okN maxLen at hz; omega
  go_enter Try.func72, Try.ntmps72
  go_wp2_with (fail)
  go_loopw [3] (fun vi wr => ∃ i : Nat, i ≤ m ∧ vi = .int .i64 i ∧ (∀ j, j < i → okc (bAt n j)) ∧ wr = w) (fun i _ => m - (intOf i).toNat)
  case atStart => exact ⟨0, Nat.zero_le _, rfl, fun j hj => by omega, rfl⟩
  case round =>
    obtain ⟨i, him, rfl, hok, rfl⟩ := hrel
    by_cases hi : i < m
    · have hi0 : (0 : Int) ≤ (i : Int) := by omega
      have hi1 : (i : Int) < (m : Int) := by omega
      have hbA : bAt n i = n[i].toNat := by
        unfold bAt
        rw [Array.getD_eq_getD_getElem?, Array.getElem?_eq_getElem (by simpa using (show i < n.size by omega))]
        rfl
      go_wp2_with (fail)
      all_goals (
        generalize n[i].toNat = c at *
        first
        | (refine ⟨⟨i + 1, by omega, by first | rfl | (push_cast; rfl), fun j hj => ?_, trivial⟩, by simp [intOf]; omega⟩
           rcases Nat.lt_or_ge j i with h | h
           · exact hok j h
           · obtain rfl : j = i := by omega
             rw [hbA]
             unfold okc
             simp at *
             omega)
        | (have hN : decide (named n) = false := decide_eq_false (fun h => by
             have h := h.2.2 i (by omega)
             rw [hbA] at h
             unfold okc at h
             simp at *
             omega)
           rw [hN]
           go_ret
           exact ⟨rfl, rfl⟩))
    · have hi1 : ¬ (i : Int) < (m : Int) := by omega
      have hall : Hid (∀ j, j < m → okc (bAt n j)) := Lib.hid (fun j hj => hok j (by omega))
      clear hok
      by_cases h1 : m < 1
      · have h1i : ¬ (1 : Int) ≤ (m : Int) := by omega
        have hN : decide (named n) = false := decide_eq_false (fun h => by have := h.1; omega)
        go_wp2_with (fail)
        go_ret
        try rw [hN]
        exact ⟨rfl, rfl⟩
      · have h1i : (1 : Int) ≤ (m : Int) := by omega
        by_cases h2 : 32 < m
        · have h2i : ¬ (m : Int) ≤ 32 := by omega
          have hN : decide (named n) = false := decide_eq_false (fun h => by have := h.2.1; omega)
          go_wp2_with (fail)
          go_ret
          try rw [hN]
          exact ⟨rfl, rfl⟩
        · have h2i : (m : Int) ≤ 32 := by omega
          have hN : decide (named n) = true := decide_eq_true ⟨by omega, by omega, fun j hj => hall.out j (by omega)⟩
          go_wp2_with (fail)
          go_ret
          try rw [hN]
          exact ⟨rfl, rfl⟩
end Go.Proofs.Ytjgiohlkpenipaa
namespace Go.Proofs.Ytjgiohlkpenipaa
open Go.RowKit Go.Maps
set_option linter.unusedVariables false
set_option linter.unusedSimpArgs false

/-- append of a slice that reads as news to a row of the call's own. -/
theorem wpList_append_g {ops : Array Oper} {rest : List Oper} {o : Oper} {a : Act} {Q : Exit → Act → World → Prop} (w : World) (hgd : o.guard = none) (s x : Operand) (t e sz bytes : Nat) (z : Value)
    (hu : Try.prog.underlying t = some (.slice e)) (hi : (Try.prog.info? e).map (fun i => (i.zero, i.size, i.bytes)) = some (some z, sz, bytes)) (hz : z.cells.size = sz) (hsz : 0 < sz) (hby : bytes ≤ 48)
    (ho : o.op = .call { callee := .builtin .append, args := #[s, x], argTypes := #[t, t] }) (base n : Nat) (v : Value) (xs : List Value) (hs : a.eval s = v) (hown : w.ownsRow base e sz v n xs)
    (g m c : Nat) (news : List Value) (hx : a.eval x = .slice (some ⟨g, 0, none⟩) m c) (hl : news.length = m * sz) (hr : ∀ j u, news[j]? = some u → w.cell? ⟨g, j, none⟩ = some u) (h1 : ∀ u ∈ news, u.oneCell' = true) (hn : n + m ≤ 4000000) (hbase : base ≤ w.heap.size)
    (h : ∀ v' w', w'.ownsRow base e sz v' (n + m) (xs ++ news) → w.grownBy w' v.ownBlock → wpList Try.prog ops Q rest (a.put o.dst v') w') : wpList Try.prog ops Q (o :: rest) a w := by
  obtain ⟨i0, hi, hz0, hz1, hz2⟩ := info_parts hi
  refine wpList_append_own w hgd s x t ho base e i0 z sz bytes hu hi hz0 hz1 hz2 hz hsz v n xs hs hown ⟨g, 0, none⟩ m c news hx hl (fun j u hj => ?_) h1 (by unfold maxLen; omega) ?_ hbase (fun v' w' h2 h3 _ => h v' w' h2 h3)
  · rw [Addr.add_lit, Nat.zero_add]
    exact hr j u hj
  · have : (n + m) * bytes ≤ 4000000 * 48 := Nat.mul_le_mul hn hby
    omega
theorem ecells_one (l : Dir) : ∀ u ∈ ecells l, u.oneCell' = true := by
  intro u hu
  obtain ⟨p, _, hp⟩ := List.mem_flatMap.1 hu
  simp only [List.mem_cons, List.not_mem_nil, or_false] at hp
  rcases hp with rfl | rfl <;> rfl
theorem ecells_app (l m : Dir) : ecells (l ++ m) = ecells l ++ ecells m := by simp [ecells]
/-- append of one entry. -/
theorem wpList_append_e {ops : Array Oper} {rest : List Oper} {o : Oper} {a : Act} {Q : Exit → Act → World → Prop} (w : World) (hgd : o.guard = none) (s x : Operand)
    (ho : o.op = .call { callee := .builtin .append, args := #[s, x], argTypes := #[49, 49] }) (base n : Nat) (v : Value) (l : Dir) (hs : a.eval s = v) (hown : w.ownsRow base 104 2 v n (ecells l)) (hl : l.length = n)
    (g : Nat) (p : ByteArray × Nat) (hx : a.eval x = .slice (some ⟨g, 0, none⟩) 1 1) (c0 : w.cell? ⟨g, 0, none⟩ = some (.string p.1)) (c1 : w.cell? ⟨g, 1, none⟩ = some (.int .i64 p.2)) (hn : n ≤ 3000000) (hbase : base ≤ w.heap.size)
    (h : ∀ v' w', w'.ownsRow base 104 2 v' (l ++ [p]).length (ecells (l ++ [p])) → w.grownBy w' v.ownBlock → wpList Try.prog ops Q rest (a.put o.dst v') w') : wpList Try.prog ops Q (o :: rest) a w := by
  refine wpList_append_g w hgd s x 49 104 2 24 _ und49 i104 rfl (by decide) (by decide) ho base n v (ecells l) hs hown g 1 1 [.string p.1, .int .i64 p.2] hx rfl (fun j u hj => ?_) (by simp [Value.oneCell']) (by omega) hbase (fun v' w' h1 h2 => h v' w' ?_ h2)
  · match j, hj with
    | 0, hj => cases hj; exact c0
    | 1, hj => cases hj; exact c1
  · rw [ecells_app, List.length_append, hl]
    exact h1
set_option maxRecDepth 100000 in
set_option maxHeartbeats 4000000 in
theorem without_any (v : Value) (l : Dir) (n : ByteArray) (w : World) (h : w.ownsRow 0 104 2 v l.length (ecells l)) (hl : l.length ≤ 1000001) :
    Calls Try.prog 82 #[v, .string n] w fun e w' => ∃ v', e = .returned v' ∧ w'.ownsRow w.heap.size 104 2 v' (wo l n).length (ecells (wo l n)) ∧ Below w.heap.size w w' := by
  obtain ⟨A, c, rfl, hc, hg⟩ := own_slice h
  obtain ⟨N, hN⟩ : ∃ N, l.length = N := ⟨_, rfl⟩
  rw [hN] at h hl hc hg ⊢
  have H := Lib.hid h
  have HN := Lib.hid hN
  have HG := Lib.hid hg
  clear h hN hg
  go_enter Try.func82, Try.ntmps82
  go_wp2_with (fail)
  go_loopw [5, 6] (fun vo vi wr => ∃ i : Nat, i ≤ N ∧ vi = .int .i64 i ∧ wr.ownsRow w.heap.size 104 2 vo (wo (l.take i) n).length (ecells (wo (l.take i) n)) ∧ Below w.heap.size w wr) (fun _ i _ => N - (intOf i).toNat)
  case atStart => exact ⟨0, Nat.zero_le _, rfl, ⟨rfl, .inl ⟨rfl, rfl⟩⟩, Below.refl _ _⟩
  case round =>
    obtain ⟨i, hin, rfl, hown, hbl⟩ := hrel
    have HO := Lib.hid hown
    have HBL := Lib.hid hbl
    have hsz := hbl.size
    clear hown hbl
    by_cases hi : i < N
    · have hi0 : (0 : Int) ≤ (i : Int) := by omega
      have hi1 : (i : Int) < (N : Int) := by omega
      obtain ⟨g, rfl⟩ : ∃ g, A = some ⟨g, 0, none⟩ := by
        rcases HG.out with h0 | h0
        · omega
        · exact h0
      have hil : i < l.length := by have := HN.out; omega
      obtain ⟨gl, _, gc, _, _⟩ := row_cells H.out
      obtain ⟨e0, e1⟩ := ecells_at hil
      have r0 := (HBL.out.cell (p := ⟨g, _, none⟩) gl).trans (gc _ _ e0)
      have r1 := (HBL.out.cell (p := ⟨g, _, none⟩) gl).trans (gc _ _ e1)
      have gl2 : g < wr.heap.size := by omega
      have HT : Hid (l.take (i + 1) = l.take i ++ [l[i]]) := Lib.hid (List.take_succ_eq_append_getElem hil)
      clear gc e0 e1
      obtain ⟨p, hp⟩ : ∃ p, l[i] = p := ⟨_, rfl⟩
      rw [hp] at r0 r1 HT
      clear hp
      obtain ⟨x, k⟩ := p
      dsimp only at r0 r1
      by_cases he : x = n
      · subst he
        have HW : Hid (wo (l.take (i + 1)) x = wo (l.take i) x) := Lib.hid (by
          rw [HT.out]
          unfold wo
          rw [List.filter_append]
          simp)
        go_wp2_with (fail)
        exact ⟨⟨i + 1, by omega, by push_cast; rfl, by rw [HW.out]; exact HO.out, HBL.out⟩, by simp [intOf]; omega⟩
      · have hnb := tl_ne he
        have HW : Hid (wo (l.take (i + 1)) n = wo (l.take i) n ++ [(x, k)]) := Lib.hid (by
          rw [HT.out]
          unfold wo
          rw [List.filter_append]
          simp [he])
        have hk1 : Hid ((wo (l.take i) n).length ≤ 3000000) := Lib.hid (by
          have h1 := wo_le (l.take i) n
          rw [List.length_take] at h1
          have := HN.out
          omega)
        have hb1 := bl_alloc (Below.refl wr.heap.size wr) (Obj.cells #[.string x, .int .i64 k] 104)
        have HO1 : Hid ((wr.alloc (Obj.cells #[.string x, .int .i64 k] 104)).ownsRow w.heap.size 104 2 u5 (wo (l.take i) n).length (ecells (wo (l.take i) n))) := Lib.hid (own_kw HO.out (Kw.ofBelow (S := fun _ => False) hb1) (fun _ _ e => e))
        have HB1 : Hid (Below w.heap.size w (wr.alloc (Obj.cells #[.string x, .int .i64 k] 104))) := Lib.hid (HBL.out.trans (hb1.mono hsz))
        have hbs : Hid (w.heap.size ≤ (wr.alloc (Obj.cells #[.string x, .int .i64 k] 104)).heap.size) := Lib.hid (by simp; omega)
        clear hb1
        go_wp2_with (at_builtin; refine wpList_append_e _ rfl _ _ rfl w.heap.size _ _ (wo (l.take i) n) rfl HO1.out rfl wr.heap.size (x, k) rfl (by go_simp) (by go_simp) hk1.out hbs.out ?_; intro v' w' ho' hg')
        exact ⟨⟨i + 1, by omega, by push_cast; rfl, by rw [HW.out]; exact ho', HB1.out.grown hg' hbs.out (fun g hg => (own_blk HO.out hg).1)⟩, by simp [intOf]; omega⟩
    · have hi1 : ¬ (i : Int) < (N : Int) := by omega
      have HE : Hid (l.take i = l) := Lib.hid (List.take_of_length_le (by have := HN.out; omega))
      go_wp2_with (fail)
      go_ret
      have := HO.out
      rw [HE.out] at this
      exact ⟨_, rfl, this, HBL.out⟩
end Go.Proofs.Ytjgiohlkpenipaa
