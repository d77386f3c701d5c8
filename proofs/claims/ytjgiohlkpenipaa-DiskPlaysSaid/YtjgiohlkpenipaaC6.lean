/- Scripts; contracts of does and long. Conditions: as each theorem states them. -/
import Derived.Test.YtjgiohlkpenipaaC5
namespace Go.Proofs.Ytjgiohlkpenipaa
open Go.RowKit Go.Maps
set_option linter.unusedVariables false
set_option linter.unusedSimpArgs false

/-- A call of a script. -/
structure Oq where
  k : Int
  nm : ByteArray
  dt : ByteArray
  n : Int
  A : Option Addr
  cs : List Int
  c : Nat
def zeroO : Oq := ⟨0, ByteArray.empty, ByteArray.empty, 0, none, [], 0⟩
instance : Inhabited Oq := ⟨zeroO⟩
def opV (o : Oq) : Value := .agg #[.int .i64 o.k, .string o.nm, .string o.dt, .int .i64 o.n, .slice o.A o.cs.length o.c]
/-- What a call must be: as it came in. -/
def okQ (w : World) (o : Oq) : Prop := okN o.nm ∧ okN o.dt ∧ (-9223372036854775808 ≤ o.n ∧ o.n < 9223372036854775808) ∧ RdC w o.A o.cs ∧ o.cs.length ≤ o.c ∧ (0 < o.cs.length → ChA w.heap.size o.A)
/-- From the address A on the calls l stand. -/
def RdO (w : World) (A : Option Addr) (l : List Oq) : Prop :=
  (0 < l.length → ∃ b off, A = some ⟨b, off, none⟩ ∧ b < w.heap.size ∧ ∀ i, i < l.length → w.cell? ⟨b, off + i * 5, none⟩ = some (.int .i64 (l.getD i zeroO).k) ∧ w.cell? ⟨b, off + i * 5 + 1, none⟩ = some (.string (l.getD i zeroO).nm) ∧
    w.cell? ⟨b, off + i * 5 + 2, none⟩ = some (.string (l.getD i zeroO).dt) ∧ w.cell? ⟨b, off + i * 5 + 3, none⟩ = some (.int .i64 (l.getD i zeroO).n) ∧ w.cell? ⟨b, off + i * 5 + 4, none⟩ = some (.slice (l.getD i zeroO).A (l.getD i zeroO).cs.length (l.getD i zeroO).c)) ∧
  ∀ o ∈ l, okQ w o
theorem okQ.below {w w' : World} {o : Oq} (h : okQ w o) (k : Below w.heap.size w w') : okQ w' o :=
  ⟨h.1, h.2.1, h.2.2.1, h.2.2.2.1.below k, h.2.2.2.2.1, fun hp a ha => Nat.lt_of_lt_of_le (h.2.2.2.2.2 hp a ha) k.size⟩
theorem RdO.below {w w' : World} {A : Option Addr} {l : List Oq} (h : RdO w A l) (k : Below w.heap.size w w') : RdO w' A l := by
  refine ⟨fun hl => ?_, fun o ho => (h.2 o ho).below k⟩
  obtain ⟨b, off, e, hb, hc⟩ := h.1 hl
  refine ⟨b, off, e, Nat.lt_of_lt_of_le hb k.size, fun i hi => ?_⟩
  obtain ⟨u0, u1, u2, u3, u4⟩ := hc i hi
  exact ⟨(k.cell (p := ⟨b, _, none⟩) hb).trans u0, (k.cell (p := ⟨b, _, none⟩) hb).trans u1, (k.cell (p := ⟨b, _, none⟩) hb).trans u2, (k.cell (p := ⟨b, _, none⟩) hb).trans u3, (k.cell (p := ⟨b, _, none⟩) hb).trans u4⟩
theorem getO {l : List Oq} {i : Nat} (h : i < l.length) : l.getD i zeroO ∈ l := by
  rw [List.getD_eq_getElem?_getD, List.getElem?_eq_getElem h]
  exact List.getElem_mem _
/-- A script that is not too long. -/
def smallO (l : List Oq) : Prop := l.length ≤ 120 ∧ ∀ o ∈ l, o.dt.size ≤ 2000 ∧ o.cs.length ≤ 300
def LongR (l : List Oq) (e : Ending) : Prop := ∃ b, e = .returned (.bool b) ∧ (b = false → smallO l)
set_option maxRecDepth 100000 in
set_option maxHeartbeats 4000000 in
theorem long_any (A : Option Addr) (c : Nat) (l : List Oq) (w : World) (hA : RdO w A l) : Calls Try.prog 18 #[.slice A l.length c] w fun e w' => LongR l e ∧ w = w' := by
  have HA := Lib.hid hA
  obtain ⟨n, hn⟩ : ∃ n, l.length = n := ⟨_, rfl⟩
  have HN := Lib.hid hn
  rw [hn]
  clear hA hn
  go_enter Try.func18, Try.ntmps18
  by_cases h1 : n ≤ 120
  · have h1i : ¬ (120 : Int) < (n : Int) := by omega
    go_wp2_with (fail)
    go_loopw [3] (fun vi wr => ∃ i : Nat, i ≤ n ∧ vi = .int .i64 i ∧ (∀ j, j < i → (l.getD j zeroO).dt.size ≤ 2000 ∧ (l.getD j zeroO).cs.length ≤ 300) ∧ wr = w) (fun i _ => n - (intOf i).toNat)
    case atStart => exact ⟨0, Nat.zero_le _, rfl, fun j hj => by omega, rfl⟩
    case round =>
      obtain ⟨i, hin, rfl, hok, rfl⟩ := hrel
      have HOK := Lib.hid hok
      clear hok
      by_cases hi : i < n
      · have hi0 : (0 : Int) ≤ (i : Int) := by omega
        have hi1 : (i : Int) < (n : Int) := by omega
        obtain ⟨b, off, rfl, hb, hc⟩ := HA.out.1 (by rw [HN.out]; omega)
        obtain ⟨_, _, u2, _, u4⟩ := hc i (by rw [HN.out]; exact hi)
        obtain ⟨o, ho⟩ : ∃ o, l.getD i zeroO = o := ⟨_, rfl⟩
        rw [ho] at u2 u4
        obtain ⟨ds, hds⟩ : ∃ ds, o.dt.size = ds := ⟨_, rfl⟩
        obtain ⟨cn, hcn⟩ : ∃ cn, o.cs.length = cn := ⟨_, rfl⟩
        rw [hcn] at u4
        have HO := Lib.hid ho
        have HDS := Lib.hid hds
        have HCN := Lib.hid hcn
        clear hc ho hcn
        by_cases hd : 2000 < ds
        · have hdi : (2000 : Int) < (ds : Int) := by omega
          go_wp2_with (fail)
          go_ret
          exact ⟨⟨true, rfl, fun h => by cases h⟩, rfl⟩
        · have hdi : ¬ (2000 : Int) < (ds : Int) := by omega
          by_cases he : 300 < cn
          · have hei : (300 : Int) < (cn : Int) := by omega
            go_wp2_with (fail)
            go_ret
            exact ⟨⟨true, rfl, fun h => by cases h⟩, rfl⟩
          · have hei : ¬ (300 : Int) < (cn : Int) := by omega
            go_wp2_with (fail)
            refine ⟨⟨i + 1, by omega, by push_cast; rfl, fun j hj => ?_, trivial⟩, by simp [intOf]; omega⟩
            rcases Nat.lt_or_ge j i with h | h
            · exact HOK.out j h
            · obtain rfl : j = i := by omega
              rw [HO.out, HDS.out, HCN.out]
              omega
      · have hi1 : ¬ (i : Int) < (n : Int) := by omega
        go_wp2_with (fail)
        go_ret
        refine ⟨⟨false, rfl, fun _ => ⟨by rw [HN.out]; exact h1, fun o ho => ?_⟩⟩, rfl⟩
        obtain ⟨j, hj, rfl⟩ := List.mem_iff_getElem.1 ho
        have := HOK.out j (by rw [HN.out] at hj; omega)
        rwa [List.getD_eq_getElem?_getD, List.getElem?_eq_getElem hj] at this
  · have h1i : (120 : Int) < (n : Int) := by omega
    go_wp2_with (fail)
    go_ret
    exact ⟨⟨true, rfl, fun h => by cases h⟩, rfl⟩
theorem tl_ne {a b : ByteArray} (h : ¬ a = b) : (a.toList == b.toList) = false := by
  rw [beq_eq_false_iff_ne]
  intro e
  rw [ByteArray.toList_eq, ByteArray.toList_eq] at e
  exact h (bytes_inj e)
theorem OpR.dor {w w' : World} {L : Lay} {s : DS} {res : Int × DS} {r : Ending} (h : OpR w L s res r w') : DoR w L s res.2 (.returned (.tuple #[])) w' := ⟨rfl, h.2⟩
theorem DoR.same {w w' : World} {L : Lay} {s : DS} (h : DAt w L s) (hb : Below w.heap.size w w') : DoR w L s s (.returned (.tuple #[])) w' :=
  ⟨rfl, L, rfl, h.below hb, Kw.ofBelow hb, fun b hb => .inl hb⟩
theorem DoR.from {w W w' : World} {L : Lay} {s s' : DS} {r : Ending} (hb : Below w.heap.size w W) (h : DoR W L s s' r w') : DoR w L s s' r w' := by
  obtain ⟨h1, L', h2, h3, h4, h5⟩ := h
  refine ⟨h1, L', h2, h3, (Kw.ofBelow hb).trans h4, fun b hb' => ?_⟩
  have := hb.size
  rcases h5 b hb' with h | h
  · exact .inl h
  · exact .inr (by omega)
/-- A call that is none of a name. -/
def DS.does (s : DS) (o : Oq) (name : ByteArray) : DS :=
  if o.nm = name ∨ (o.k = 5 ∧ o.dt = name) then s
  else if o.k = 1 then (s.create o.nm).2 else if o.k = 2 then (s.append o.nm o.dt).2 else if o.k = 3 then (s.fsync o.nm).2 else if o.k = 4 then s.dsync.2
  else if o.k = 5 then (s.rename o.nm o.dt).2 else if o.k = 6 then (s.remove o.nm).2 else if o.k = 7 then s.fuseTo o.n else s
set_option maxRecDepth 100000 in
set_option maxHeartbeats 4000000 in
theorem does_skip1 (L : Lay) (s : DS) (o : Oq) (name : ByteArray) (w : World) (h : DAt w L s) (iv : Inv s) (hs : s.steps < 1000000) (hn : okN o.nm) (hd : o.dt.size ≤ 2000) (hnn : o.n < 9223372036854775808) (he : o.nm = name) :
    Calls Try.prog 19 #[dP L, opV o, .string name] w (DoR w L s (s.does o name)) := by
  have hb0 := bl_alloc (Below.refl w.heap.size w) (Obj.cells #[.int .i64 o.k, .string o.nm, .string o.dt, .int .i64 o.n, .slice o.A o.cs.length o.c] 38)
  have hd0 := h.below hb0
  have H := Lib.hid h
  have HB := Lib.hid hb0
  have hE : s.does o name = s := by unfold DS.does; rw [if_pos (.inl he)]
  rw [hE]
  unfold dP opV at *
  obtain ⟨k, nm, dt, nn, A, cs, c⟩ := o
  dsimp only at *
  clear hE hd0 hb0 h
  subst he
  go_enter Try.func19, Try.ntmps19
  go_wp2_with (fail)
  go_end0
  exact DoR.same H.out HB.out
set_option maxRecDepth 100000 in
set_option maxHeartbeats 4000000 in
theorem does_skip2 (L : Lay) (s : DS) (o : Oq) (name : ByteArray) (w : World) (h : DAt w L s) (iv : Inv s) (hs : s.steps < 1000000) (hn : okN o.nm) (hd : o.dt.size ≤ 2000) (hnn : o.n < 9223372036854775808) (he : ¬ o.nm = name) (hk : o.k = 5) (hg : o.dt = name) :
    Calls Try.prog 19 #[dP L, opV o, .string name] w (DoR w L s (s.does o name)) := by
  have hb0 := bl_alloc (Below.refl w.heap.size w) (Obj.cells #[.int .i64 o.k, .string o.nm, .string o.dt, .int .i64 o.n, .slice o.A o.cs.length o.c] 38)
  have hd0 := h.below hb0
  have H := Lib.hid h
  have HB := Lib.hid hb0
  have hE : s.does o name = s := by unfold DS.does; rw [if_pos (.inr ⟨hk, hg⟩)]
  rw [hE]
  unfold dP opV at *
  obtain ⟨k, nm, dt, nn, A, cs, c⟩ := o
  dsimp only at *
  clear hE hd0 hb0 h
  have hel := tl_ne he
  subst hg
  subst hk
  go_enter Try.func19, Try.ntmps19
  go_wp2_with (fail)
  go_end0
  exact DoR.same H.out HB.out
set_option maxRecDepth 100000 in
set_option maxHeartbeats 4000000 in
theorem does_create (L : Lay) (s : DS) (o : Oq) (name : ByteArray) (w : World) (h : DAt w L s) (iv : Inv s) (hs : s.steps < 1000000) (hn : okN o.nm) (hd : o.dt.size ≤ 2000) (hnn : o.n < 9223372036854775808) (he : ¬ o.nm = name) (hk : o.k = 1) :
    Calls Try.prog 19 #[dP L, opV o, .string name] w (DoR w L s (s.does o name)) := by
  have hb0 := bl_alloc (Below.refl w.heap.size w) (Obj.cells #[.int .i64 o.k, .string o.nm, .string o.dt, .int .i64 o.n, .slice o.A o.cs.length o.c] 38)
  have hd0 := h.below hb0
  have H := Lib.hid h
  have HB := Lib.hid hb0
  have HC := Lib.hid (create_any L s o.nm _ hd0 iv.ok hs hn)
  have hE : s.does o name = (s.create o.nm).2 := by unfold DS.does; rw [if_neg (by rintro (h | ⟨h1, h2⟩); exact he h; rw [hk] at h1; exact absurd h1 (by decide)), if_pos hk]
  rw [hE]
  unfold dP opV at *
  obtain ⟨k, nm, dt, nn, A, cs, c⟩ := o
  dsimp only at *
  clear hE hd0 hb0 h
  have hel := tl_ne he
  subst hk
  go_enter Try.func19, Try.ntmps19
  go_wp2_with (fail)
  refine HC.out.mono ?_
  rintro r w' hr
  obtain rfl := hr.1
  have HR := Lib.hid hr
  clear hr
  go_wp2_with (fail)
  go_end0
  exact (HR.out.dor).from HB.out
set_option maxRecDepth 100000 in
set_option maxHeartbeats 4000000 in
theorem does_append (L : Lay) (s : DS) (o : Oq) (name : ByteArray) (w : World) (h : DAt w L s) (iv : Inv s) (hs : s.steps < 1000000) (hn : okN o.nm) (hd : o.dt.size ≤ 2000) (hnn : o.n < 9223372036854775808) (he : ¬ o.nm = name) (hk : o.k = 2) :
    Calls Try.prog 19 #[dP L, opV o, .string name] w (DoR w L s (s.does o name)) := by
  have hb0 := bl_alloc (Below.refl w.heap.size w) (Obj.cells #[.int .i64 o.k, .string o.nm, .string o.dt, .int .i64 o.n, .slice o.A o.cs.length o.c] 38)
  have hd0 := h.below hb0
  have H := Lib.hid h
  have HB := Lib.hid hb0
  have HC := Lib.hid (append_any L s o.nm o.dt _ hd0 iv.ok hs hn hd)
  have hE : s.does o name = (s.append o.nm o.dt).2 := by unfold DS.does; rw [if_neg (by rintro (h | ⟨h1, h2⟩); exact he h; rw [hk] at h1; exact absurd h1 (by decide)), if_neg (by rw [hk]; decide), if_pos hk]
  rw [hE]
  unfold dP opV at *
  obtain ⟨k, nm, dt, nn, A, cs, c⟩ := o
  dsimp only at *
  clear hE hd0 hb0 h
  have hel := tl_ne he
  subst hk
  go_enter Try.func19, Try.ntmps19
  go_wp2_with (fail)
  refine HC.out.mono ?_
  rintro r w' hr
  obtain rfl := hr.1
  have HR := Lib.hid hr
  clear hr
  go_wp2_with (fail)
  go_end0
  exact (HR.out.dor).from HB.out
set_option maxRecDepth 100000 in
set_option maxHeartbeats 4000000 in
theorem does_sync (L : Lay) (s : DS) (o : Oq) (name : ByteArray) (w : World) (h : DAt w L s) (iv : Inv s) (hs : s.steps < 1000000) (hn : okN o.nm) (hd : o.dt.size ≤ 2000) (hnn : o.n < 9223372036854775808) (he : ¬ o.nm = name) (hk : o.k = 3) :
    Calls Try.prog 19 #[dP L, opV o, .string name] w (DoR w L s (s.does o name)) := by
  have hb0 := bl_alloc (Below.refl w.heap.size w) (Obj.cells #[.int .i64 o.k, .string o.nm, .string o.dt, .int .i64 o.n, .slice o.A o.cs.length o.c] 38)
  have hd0 := h.below hb0
  have H := Lib.hid h
  have HB := Lib.hid hb0
  have HC := Lib.hid (sync_any L s o.nm _ hd0 iv.ok hs hn)
  have hE : s.does o name = (s.fsync o.nm).2 := by unfold DS.does; rw [if_neg (by rintro (h | ⟨h1, h2⟩); exact he h; rw [hk] at h1; exact absurd h1 (by decide)), if_neg (by rw [hk]; decide), if_neg (by rw [hk]; decide), if_pos hk]
  rw [hE]
  unfold dP opV at *
  obtain ⟨k, nm, dt, nn, A, cs, c⟩ := o
  dsimp only at *
  clear hE hd0 hb0 h
  have hel := tl_ne he
  subst hk
  go_enter Try.func19, Try.ntmps19
  go_wp2_with (fail)
  refine HC.out.mono ?_
  rintro r w' hr
  obtain rfl := hr.1
  have HR := Lib.hid hr
  clear hr
  go_wp2_with (fail)
  go_end0
  exact (HR.out.dor).from HB.out
set_option maxRecDepth 100000 in
set_option maxHeartbeats 4000000 in
theorem does_dsync (L : Lay) (s : DS) (o : Oq) (name : ByteArray) (w : World) (h : DAt w L s) (iv : Inv s) (hs : s.steps < 1000000) (hn : okN o.nm) (hd : o.dt.size ≤ 2000) (hnn : o.n < 9223372036854775808) (he : ¬ o.nm = name) (hk : o.k = 4) :
    Calls Try.prog 19 #[dP L, opV o, .string name] w (DoR w L s (s.does o name)) := by
  have hb0 := bl_alloc (Below.refl w.heap.size w) (Obj.cells #[.int .i64 o.k, .string o.nm, .string o.dt, .int .i64 o.n, .slice o.A o.cs.length o.c] 38)
  have hd0 := h.below hb0
  have H := Lib.hid h
  have HB := Lib.hid hb0
  have HC := Lib.hid (syncdir_any L s _ hd0 iv.ok hs)
  have hE : s.does o name = s.dsync.2 := by unfold DS.does; rw [if_neg (by rintro (h | ⟨h1, h2⟩); exact he h; rw [hk] at h1; exact absurd h1 (by decide)), if_neg (by rw [hk]; decide), if_neg (by rw [hk]; decide), if_neg (by rw [hk]; decide), if_pos hk]
  rw [hE]
  unfold dP opV at *
  obtain ⟨k, nm, dt, nn, A, cs, c⟩ := o
  dsimp only at *
  clear hE hd0 hb0 h
  have hel := tl_ne he
  subst hk
  go_enter Try.func19, Try.ntmps19
  go_wp2_with (fail)
  refine HC.out.mono ?_
  rintro r w' hr
  obtain rfl := hr.1
  have HR := Lib.hid hr
  clear hr
  go_wp2_with (fail)
  go_end0
  exact (HR.out.dor).from HB.out
set_option maxRecDepth 100000 in
set_option maxHeartbeats 4000000 in
theorem does_rename (L : Lay) (s : DS) (o : Oq) (name : ByteArray) (w : World) (h : DAt w L s) (iv : Inv s) (hs : s.steps < 1000000) (hn : okN o.nm) (hd : o.dt.size ≤ 2000) (hnn : o.n < 9223372036854775808) (he : ¬ o.nm = name) (hk : o.k = 5) (hg : ¬ o.dt = name) :
    Calls Try.prog 19 #[dP L, opV o, .string name] w (DoR w L s (s.does o name)) := by
  have hb0 := bl_alloc (Below.refl w.heap.size w) (Obj.cells #[.int .i64 o.k, .string o.nm, .string o.dt, .int .i64 o.n, .slice o.A o.cs.length o.c] 38)
  have hd0 := h.below hb0
  have H := Lib.hid h
  have HB := Lib.hid hb0
  have HC := Lib.hid (rename_any L s o.nm o.dt _ hd0 iv.ok hs hn)
  have hE : s.does o name = (s.rename o.nm o.dt).2 := by unfold DS.does; rw [if_neg (by rintro (h | ⟨h1, h2⟩); exact he h; exact hg h2), if_neg (by rw [hk]; decide), if_neg (by rw [hk]; decide), if_neg (by rw [hk]; decide), if_neg (by rw [hk]; decide), if_pos hk]
  rw [hE]
  unfold dP opV at *
  obtain ⟨k, nm, dt, nn, A, cs, c⟩ := o
  dsimp only at *
  clear hE hd0 hb0 h
  have hel := tl_ne he
  have hgl := tl_ne hg
  subst hk
  go_enter Try.func19, Try.ntmps19
  go_wp2_with (fail)
  refine HC.out.mono ?_
  rintro r w' hr
  obtain rfl := hr.1
  have HR := Lib.hid hr
  clear hr
  go_wp2_with (fail)
  go_end0
  exact (HR.out.dor).from HB.out
set_option maxRecDepth 100000 in
set_option maxHeartbeats 4000000 in
theorem does_remove (L : Lay) (s : DS) (o : Oq) (name : ByteArray) (w : World) (h : DAt w L s) (iv : Inv s) (hs : s.steps < 1000000) (hn : okN o.nm) (hd : o.dt.size ≤ 2000) (hnn : o.n < 9223372036854775808) (he : ¬ o.nm = name) (hk : o.k = 6) :
    Calls Try.prog 19 #[dP L, opV o, .string name] w (DoR w L s (s.does o name)) := by
  have hb0 := bl_alloc (Below.refl w.heap.size w) (Obj.cells #[.int .i64 o.k, .string o.nm, .string o.dt, .int .i64 o.n, .slice o.A o.cs.length o.c] 38)
  have hd0 := h.below hb0
  have H := Lib.hid h
  have HB := Lib.hid hb0
  have HC := Lib.hid (remove_any L s o.nm _ hd0 iv.ok hs hn)
  have hE : s.does o name = (s.remove o.nm).2 := by unfold DS.does; rw [if_neg (by rintro (h | ⟨h1, h2⟩); exact he h; rw [hk] at h1; exact absurd h1 (by decide)), if_neg (by rw [hk]; decide), if_neg (by rw [hk]; decide), if_neg (by rw [hk]; decide), if_neg (by rw [hk]; decide), if_neg (by rw [hk]; decide), if_pos hk]
  rw [hE]
  unfold dP opV at *
  obtain ⟨k, nm, dt, nn, A, cs, c⟩ := o
  dsimp only at *
  clear hE hd0 hb0 h
  have hel := tl_ne he
  subst hk
  go_enter Try.func19, Try.ntmps19
  go_wp2_with (fail)
  refine HC.out.mono ?_
  rintro r w' hr
  obtain rfl := hr.1
  have HR := Lib.hid hr
  clear hr
  go_wp2_with (fail)
  go_end0
  exact (HR.out.dor).from HB.out
set_option maxRecDepth 100000 in
set_option maxHeartbeats 4000000 in
theorem does_fuse (L : Lay) (s : DS) (o : Oq) (name : ByteArray) (w : World) (h : DAt w L s) (iv : Inv s) (hs : s.steps < 1000000) (hn : okN o.nm) (hd : o.dt.size ≤ 2000) (hnn : o.n < 9223372036854775808) (he : ¬ o.nm = name) (hk : o.k = 7) :
    Calls Try.prog 19 #[dP L, opV o, .string name] w (DoR w L s (s.does o name)) := by
  have hb0 := bl_alloc (Below.refl w.heap.size w) (Obj.cells #[.int .i64 o.k, .string o.nm, .string o.dt, .int .i64 o.n, .slice o.A o.cs.length o.c] 38)
  have hd0 := h.below hb0
  have H := Lib.hid h
  have HB := Lib.hid hb0
  have HC := Lib.hid (fuse_any L s o.n _ hd0 hnn)
  have hE : s.does o name = s.fuseTo o.n := by unfold DS.does; rw [if_neg (by rintro (h | ⟨h1, h2⟩); exact he h; rw [hk] at h1; exact absurd h1 (by decide)), if_neg (by rw [hk]; decide), if_neg (by rw [hk]; decide), if_neg (by rw [hk]; decide), if_neg (by rw [hk]; decide), if_neg (by rw [hk]; decide), if_neg (by rw [hk]; decide), if_pos hk]
  rw [hE]
  unfold dP opV at *
  obtain ⟨k, nm, dt, nn, A, cs, c⟩ := o
  dsimp only at *
  clear hE hd0 hb0 h
  have hel := tl_ne he
  subst hk
  go_enter Try.func19, Try.ntmps19
  go_wp2_with (fail)
  refine HC.out.mono ?_
  rintro r w' ⟨rfl, hd', hk'⟩
  have HD := Lib.hid hd'
  have HK := Lib.hid hk'
  clear hd' hk'
  go_wp2_with (fail)
  go_end0
  refine DoR.from HB.out ⟨rfl, L, rfl, HD.out, HK.out.mono (fun b _ e => .inl e), fun b hb => .inl ?_⟩
  have e1 : (s.fuseTo nn).dir = s.dir ∧ (s.fuseTo nn).kept = s.kept ∧ (s.fuseTo nn).waits = s.waits := by
    unfold DS.fuseTo
    split <;> exact ⟨rfl, rfl, rfl⟩
  exact foot_eq e1.1 e1.2.1 e1.2.2 hb
set_option maxRecDepth 100000 in
set_option maxHeartbeats 4000000 in
theorem does_none (L : Lay) (s : DS) (o : Oq) (name : ByteArray) (w : World) (h : DAt w L s) (iv : Inv s) (hs : s.steps < 1000000) (hn : okN o.nm) (hd : o.dt.size ≤ 2000) (hnn : o.n < 9223372036854775808) (he : ¬ o.nm = name) (h1 : ¬ o.k = 1) (h2 : ¬ o.k = 2) (h3 : ¬ o.k = 3) (h4 : ¬ o.k = 4) (h5 : ¬ o.k = 5) (h6 : ¬ o.k = 6) (h7 : ¬ o.k = 7) :
    Calls Try.prog 19 #[dP L, opV o, .string name] w (DoR w L s (s.does o name)) := by
  have hb0 := bl_alloc (Below.refl w.heap.size w) (Obj.cells #[.int .i64 o.k, .string o.nm, .string o.dt, .int .i64 o.n, .slice o.A o.cs.length o.c] 38)
  have hd0 := h.below hb0
  have H := Lib.hid h
  have HB := Lib.hid hb0
  have hE : s.does o name = s := by unfold DS.does; rw [if_neg (by rintro (h | ⟨hh, _⟩); exact he h; exact h5 hh), if_neg h1, if_neg h2, if_neg h3, if_neg h4, if_neg h5, if_neg h6, if_neg h7]
  rw [hE]
  unfold dP opV at *
  obtain ⟨k, nm, dt, nn, A, cs, c⟩ := o
  dsimp only at *
  clear hE hd0 hb0 h
  have hel := tl_ne he
  go_enter Try.func19, Try.ntmps19
  go_wp2_with (fail)
  go_end0
  exact DoR.same H.out HB.out
theorem does_any (L : Lay) (s : DS) (o : Oq) (name : ByteArray) (w : World) (h : DAt w L s) (iv : Inv s) (hs : s.steps < 1000000) (hn : okN o.nm) (hd : o.dt.size ≤ 2000) (hnn : o.n < 9223372036854775808) :
    Calls Try.prog 19 #[dP L, opV o, .string name] w (DoR w L s (s.does o name)) := by
  by_cases he : o.nm = name
  · exact does_skip1 L s o name w h iv hs hn hd hnn he
  · by_cases h1 : o.k = 1
    · exact does_create L s o name w h iv hs hn hd hnn he h1
    · by_cases h2 : o.k = 2
      · exact does_append L s o name w h iv hs hn hd hnn he h2
      · by_cases h3 : o.k = 3
        · exact does_sync L s o name w h iv hs hn hd hnn he h3
        · by_cases h4 : o.k = 4
          · exact does_dsync L s o name w h iv hs hn hd hnn he h4
          · by_cases h5 : o.k = 5
            · by_cases hg : o.dt = name
              · exact does_skip2 L s o name w h iv hs hn hd hnn he h5 hg
              · exact does_rename L s o name w h iv hs hn hd hnn he h5 hg
            · by_cases h6 : o.k = 6
              · exact does_remove L s o name w h iv hs hn hd hnn he h6
              · by_cases h7 : o.k = 7
                · exact does_fuse L s o name w h iv hs hn hd hnn he h7
                · exact does_none L s o name w h iv hs hn hd hnn he h1 h2 h3 h4 h5 h6 h7
end Go.Proofs.Ytjgiohlkpenipaa
