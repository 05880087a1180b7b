/- Words on memory that the contracts of this seat are stated in: what a call may change (Only), how a slice reads (Rd, Sl), how a map of ints reads (MapI). No program is named here. -/
import Derived.WalkKit
import Derived.WalkLawsBesides
import Derived.WalkSpells
import Derived.Lib.Hide
import Derived.KernelRfl
import Derived.Maps.RangeRun
import Derived.Deep.LoopGhost
import Derived.Deep.RegionHeld3
import Derived.Lib.LazyBuf
import Derived.Deep.QuietTactic
import Derived.BigQuiet
import Derived.Deep.DeepCutAuto
namespace Go.Proofs.YtbgcelfmelpbeaaDoor
open Go.RowKit
open Go.ChangeMaps (setBlock)

/-! ### what a call may change -/
/-- The world w' is w with new blocks, and with changes to blocks of S alone. -/
structure Only (S : Nat → Prop) (w w' : World) : Prop where
  os : w'.os = w.os
  tape : w'.tape = w.tape
  output : w'.output = w.output
  size : w.heap.size ≤ w'.heap.size
  block : ∀ k, k < w.heap.size → ¬ S k → w'.heap[k]? = w.heap[k]?
abbrev Ext (w w' : World) : Prop := Only (fun _ => False) w w'
section only
variable {S T : Nat → Prop} {a w w' : World}
theorem lt_of_get {w : World} {k : Nat} {o : Obj} (h : w.heap[k]? = some o) : k < w.heap.size := (Array.getElem?_eq_some_iff.1 h).1
theorem Only.refl (S : Nat → Prop) (w : World) : Only S w w := ⟨rfl, rfl, rfl, Nat.le_refl _, fun _ _ _ => rfl⟩
theorem Only.trans (h : Only S a w) (k : Only S w w') : Only S a w' :=
  ⟨k.os.trans h.os, k.tape.trans h.tape, k.output.trans h.output, Nat.le_trans h.size k.size, fun i hi hn => (k.block i (Nat.lt_of_lt_of_le hi h.size) hn).trans (h.block i hi hn)⟩
theorem Only.mono (h : Only S w w') (hT : ∀ k, S k → T k) : Only T w w' := ⟨h.os, h.tape, h.output, h.size, fun k hk hn => h.block k hk (fun hs => hn (hT k hs))⟩
theorem Ext.only (h : Ext w w') (S : Nat → Prop) : Only S w w' := h.mono (fun _ h => h.elim)
/-- What is changed behind may also be what is new. -/
theorem Only.andThen (h : Only S a w) (k : Only T w w') (hT : ∀ i, T i → S i ∨ a.heap.size ≤ i) : Only S a w' :=
  ⟨k.os.trans h.os, k.tape.trans h.tape, k.output.trans h.output, Nat.le_trans h.size k.size, fun i hi hn =>
    (k.block i (Nat.lt_of_lt_of_le hi h.size) (fun ht => (hT i ht).elim hn (fun hle => by omega))).trans (h.block i hi hn)⟩
theorem Only.drew (h : Only S a w) : Only S a w.drew := ⟨h.os, h.tape, h.output, h.size, h.block⟩
theorem Only.drewN (h : Only S a w) (n : Nat) : Only S a (w.drewN n) := ⟨h.os, h.tape, h.output, h.size, h.block⟩
theorem Only.alloc (h : Only S a w) (o : Obj) : Only S a (w.alloc o) :=
  h.trans ⟨rfl, rfl, rfl, by simp, fun k hk _ => Below.heap_alloc _ _ _ (by omega)⟩
theorem Only.setCell (h : Only S a w) {p : Addr} (hp : S p.block ∨ a.heap.size ≤ p.block) (u : Value) : Only S a (w.setCell p u) :=
  h.andThen (T := fun k => k = p.block) ⟨rfl, rfl, rfl, by simp [World.setCell], fun k _ hn => Below.heap_setCell _ _ _ _ hn⟩ (by rintro i rfl; exact hp)
theorem Only.setBlock (h : Only S a w) {b : Nat} (hp : S b ∨ a.heap.size ≤ b) (o : Obj) : Only S a (setBlock w b o) :=
  h.andThen (T := fun k => k = b) ⟨rfl, rfl, rfl, by simp [Go.ChangeMaps.setBlock], fun k _ hn => by
    simp only [Go.ChangeMaps.setBlock]; rw [Array.getElem?_setIfInBounds_ne (by omega)]⟩ (by rintro i rfl; exact hp)
theorem Only.grown (h : Only S a w) {row : Option Nat} (hg : w.grownBy w' row) (hp : ∀ k, row = some k → S k ∨ a.heap.size ≤ k) : Only S a w' :=
  h.andThen (T := fun k => row = some k) ⟨hg.os, hg.tape, hg.output, hg.size, fun k hk hn => hg.block k hk (fun e => hn e.symm)⟩ hp
theorem Only.of_below (h : Below w.heap.size w w') (S : Nat → Prop) : Only S w w' := ⟨h.os, h.tape, h.output, h.size, fun k hk _ => h.block k hk⟩
theorem Only.below {B : Nat} (h : Only S w w') (hB : B ≤ w.heap.size) (hS : ∀ k, S k → B ≤ k) : Below B w w' :=
  ⟨h.os, h.tape, h.output, h.size, fun k hk => h.block k (by omega) (fun hs => by have := hS k hs; omega)⟩
theorem Only.get (h : Only S w w') {k : Nat} {o : Obj} (hb : w.heap[k]? = some o) (hn : ¬ S k) : w'.heap[k]? = some o :=
  (h.block k (lt_of_get hb) hn).trans hb
theorem Only.cell (h : Only S w w') {p : Addr} {v : Value} (hb : w.cell? p = some v) (hn : ¬ S p.block) : w'.cell? p = some v :=
  (World.cell?_of_block (h.block p.block (World.block_lt_of_cell? w p hb) hn)).trans hb
end only

/-! ### blocks and cells -/
theorem blk_cell {w : World} {s j : Nat} {c : Array Value} {t : TypeId} {f : Nat × Nat} {v : Value} (h : w.heap[s]? = some (.cells c t f)) (hj : c[j]? = some v) : w.cell? ⟨s, j, none⟩ = some v := by
  rw [cell_of_row w s j c t f h]; exact hj
theorem blk_free {w : World} {s : Nat} {c : Array Value} {t : TypeId} (h : w.heap[s]? = some (.cells c t (0, 0))) (j : Nat) : w.frozen? ⟨s, j, none⟩ = false := frozen_of_row w s j c t h
theorem get_setCell {w : World} {s i : Nat} {c : Array Value} {t : TypeId} (v : Value) (h : w.heap[s]? = some (.cells c t (0, 0))) :
    (w.setCell ⟨s, i, none⟩ v).heap[s]? = some (.cells (c.setIfInBounds i v) t (0, 0)) := heap_setCell_same w s i c t v h
theorem get_setCell_ne {w : World} {p : Addr} {k : Nat} (v : Value) (h : k ≠ p.block) : (w.setCell p v).heap[k]? = w.heap[k]? := Below.heap_setCell _ _ _ _ h
theorem get_setBlock {w : World} {b : Nat} {o o' : Obj} (h : w.heap[b]? = some o) : (setBlock w b o').heap[b]? = some o' := by
  have := lt_of_get h
  simp [setBlock, this]
theorem get_setBlock_ne {w : World} {b k : Nat} {o' : Obj} (h : k ≠ b) : (setBlock w b o').heap[k]? = w.heap[k]? := by
  simp only [setBlock]; rw [Array.getElem?_setIfInBounds_ne (by omega)]
theorem get_alloc {w : World} {o : Obj} : (w.alloc o).heap[w.heap.size]? = some o := heap_alloc_new w o
theorem get_alloc_old {w : World} {o : Obj} {k : Nat} {o' : Obj} (h : w.heap[k]? = some o') : (w.alloc o).heap[k]? = some o' := (Below.heap_alloc w o k (lt_of_get h)).trans h

/-! ### slices of one-cell elements -/
/-- The cells from A on read as cs (in a block of elements e). -/
def Rd (w : World) (e : TypeId) (A : Option Addr) (cs : List Value) : Prop :=
  cs = [] ∨ ∃ b off arr fz, A = some ⟨b, off, none⟩ ∧ w.heap[b]? = some (.cells arr e fz) ∧ ∀ j, j < cs.length → arr[off + j]? = cs[j]?
/-- The slice value v (elements e, of one cell each) reads as cs. -/
def Sl (w : World) (e : TypeId) (v : Value) (cs : List Value) : Prop := ∃ A c, v = .slice A cs.length c ∧ cs.length ≤ c ∧ Rd w e A cs ∧ (A = none → c = 0)
abbrev vB (b : UInt8) : Value := .int .u8 (b.toNat : Int)
abbrev vI (n : Int) : Value := .int .i64 n
section rd
variable {w w' : World} {e : TypeId} {A : Option Addr} {v : Value} {cs : List Value}
theorem Rd.only {S : Nat → Prop} (h : Rd w e A cs) (ho : Only S w w') (hS : ∀ k arr fz, S k → w.heap[k]? ≠ some (.cells arr e fz)) : Rd w' e A cs := by
  rcases h with h | ⟨b, off, arr, fz, hA, hb, hc⟩
  · exact .inl h
  · exact .inr ⟨b, off, arr, fz, hA, ho.get hb (fun hs => hS b arr fz hs hb), hc⟩
theorem Sl.only {S : Nat → Prop} (h : Sl w e v cs) (ho : Only S w w') (hS : ∀ k arr fz, S k → w.heap[k]? ≠ some (.cells arr e fz)) : Sl w' e v cs := by
  obtain ⟨A, c, h1, h2, h3, h4⟩ := h
  exact ⟨A, c, h1, h2, h3.only ho hS, h4⟩
theorem Rd.ext (h : Rd w e A cs) (ho : Ext w w') : Rd w' e A cs := h.only ho (fun _ _ _ h => h.elim)
theorem Sl.ext (h : Sl w e v cs) (ho : Ext w w') : Sl w' e v cs := h.only ho (fun _ _ _ h => h.elim)
theorem Rd.cell (h : Rd w e A cs) {j : Nat} (hj : j < cs.length) : ∃ b off, A = some ⟨b, off, none⟩ ∧ w.cell? ⟨b, off + j, none⟩ = some cs[j] := by
  rcases h with rfl | ⟨b, off, arr, fz, hA, hb, hc⟩
  · simp at hj
  · exact ⟨b, off, hA, blk_cell hb (by rw [hc j hj, List.getElem?_eq_getElem hj])⟩
theorem Rd.news (h : Rd w e A cs) {a : Addr} (ha : A = some a) : ∀ j u, cs[j]? = some u → w.cell? (a.add j) = some u := by
  intro j u hu
  obtain ⟨hj, rfl⟩ := List.getElem?_eq_some_iff.1 hu
  obtain ⟨b, off, hA, hc⟩ := h.cell hj
  rw [hA] at ha
  cases ha
  rw [Addr.add_lit]; exact hc
theorem Sl.nil (w : World) (e : TypeId) : Sl w e (.slice none 0 0) [] := ⟨none, 0, rfl, Nat.le_refl _, .inl rfl, fun _ => rfl⟩
theorem Sl.of_owns {base n : Nat} (h : w.ownsRow base e 1 v n cs) : Sl w e v cs := by
  obtain ⟨hl, ⟨rfl, rfl⟩ | ⟨g, cap, cur, rfl, _, hg, hn, _, hsz, ht⟩⟩ := h
  · obtain rfl : cs = [] := List.eq_nil_of_length_eq_zero (by simpa using hl)
    exact Sl.nil w e
  · have hl' : cs.length = n := by omega
    refine ⟨some ⟨g, 0, none⟩, cap, by rw [hl'], by omega, .inr ⟨g, 0, cur, (0, 0), rfl, hg, fun j hj => ?_⟩, by simp⟩
    rw [← ht, List.getElem?_take_of_lt (by omega), Nat.zero_add, Array.getElem?_toList]
theorem Sl.len (h : Sl w e v cs) : ∃ A c, v = .slice A cs.length c := by obtain ⟨A, c, h, _⟩ := h; exact ⟨A, c, h⟩
end rd

/-- the slice value v reads as the one-cell values cs, from a block under B -/
def Cs (B : Nat) (w : World) (v : Value) (cs : List Value) : Prop := ∃ A c, v = .slice A cs.length c ∧ ∀ j (hj : j < cs.length), ∃ b off, A = some ⟨b, off, none⟩ ∧ b < B ∧ w.cell? ⟨b, off + j, none⟩ = some cs[j]
section cs
variable {B : Nat} {S : Nat → Prop} {w w' : World} {v : Value} {cs : List Value}
theorem Cs.only (h : Cs B w v cs) (ho : Only S w w') (hS : ∀ k, S k → B ≤ k) : Cs B w' v cs := by
  obtain ⟨A, c, h1, h2⟩ := h
  refine ⟨A, c, h1, fun j hj => ?_⟩
  obtain ⟨b, off, e, hb, hc⟩ := h2 j hj
  exact ⟨b, off, e, hb, ho.cell hc (fun hs => by have := hS _ hs; simp at this; omega)⟩
theorem Cs.ext (h : Cs B w v cs) (ho : Ext w w') : Cs B w' v cs := h.only ho (fun _ h => h.elim)
theorem Sl.cells {e : TypeId} (h : Sl w e v cs) : Cs w.heap.size w v cs := by
  obtain ⟨A, c, h1, h2, h3, h4⟩ := h
  refine ⟨A, c, h1, fun j hj => ?_⟩
  obtain ⟨b, off, e, hc⟩ := h3.cell hj
  exact ⟨b, off, e, World.block_lt_of_cell? w _ hc, hc⟩
end cs

/-! ### append -/
section app
variable {P : Program}
theorem oneCell_map {α : Type} (f : α → Value) (hf : ∀ x, (f x).oneCell' = true) (l : List α) : ∀ u ∈ l.map f, u.oneCell' = true := by
  intro u hu
  obtain ⟨x, _, rfl⟩ := List.mem_map.1 hu
  exact hf x
/-- append of whatever slice to a row that the call owns. -/
theorem run_append_sl {w : World} {t ty e : TypeId} {z : Value} {bytes : Nat} (ht : P.underlying t = some (.slice e)) (hi : (P.info? e).map (fun i => (i.zero, i.size, i.bytes)) = some (some z, 1, bytes)) (hz : z.cells.size = 1)
    {base : Nat} {v x : Value} {n : Nat} {xs news : List Value} (hown : w.ownsRow base e 1 v n xs) (hx : Sl w e x news) (h1 : ∀ u ∈ news, u.oneCell' = true)
    (h63 : n + news.length ≤ maxLen) (hb : (n + news.length) * bytes ≤ 140737488355328) (hbase : base ≤ w.heap.size) :
    ∃ v' w', (Builtin.append_ #[t, t] ty #[v, x]).run P w = .ok v' w' ∧ w'.ownsRow base e 1 v' (n + news.length) (xs ++ news) ∧ w.grownBy w' v.ownBlock := by
  obtain ⟨i, hi, hz0, hz1, hz2⟩ := info_parts hi
  obtain ⟨A, c, rfl, hc, hr, hA⟩ := hx
  cases A with
  | none =>
    have h0 := hA rfl
    obtain rfl : news = [] := List.eq_nil_of_length_eq_zero (by omega)
    obtain rfl : c = 0 := h0
    have := run_append_owned_none (P := P) w base t ty e i 1 ht hi v n xs hown
    exact ⟨v, w, this, by simpa using hown, World.grownBy.refl _ _⟩
  | some a =>
    obtain ⟨v', w', hr', h2, h3, _⟩ := run_append_own (P := P) w base t ty e i z 1 bytes ht hi hz0 hz1 hz2 hz (by omega) v n xs hown a news.length c news (by omega) (hr.news rfl) h1 h63 hb hbase
    exact ⟨v', w', hr', h2, h3⟩
end app

/-- an append whose run is known -/
theorem wpList_append_run {P : Program} {w w' : World} {ops : Array Oper} {rest : List Oper} {o : Oper} {a : Act} {Q : Exit → Act → World → Prop}
    {v vx v' : Value} {t t' ty : TypeId} (hrun : (Builtin.append_ #[t, t'] ty #[v, vx]).run P w = .ok v' w') (hg : o.guard = none) (s x : Operand) (hty : o.type = ty)
    (hop : o.op = Op.call { callee := Callee.builtin Builtin.append, args := #[s, x], argTypes := #[t, t'] }) (hs : a.eval s = v) (hx : a.eval x = vx)
    (hK : wpList P ops Q rest (a.put o.dst v') w') : wpList P ops Q (o :: rest) a w := by
  refine wpList_plain hg fun K hK' => ?_
  subst hty
  unfold Oper.wp
  simp [execOp, hop, resolve, invoke, builtin, hs, hx, hrun, Result.andThen]
  exact hK' _ _ hK
/-- an append of whatever slice to a row that the call owns: in a list of operations, and as a step of a region that draws its order -/
theorem wpList_append_sl {P : Program} {w : World} {ops : Array Oper} {rest : List Oper} {o : Oper} {a : Act} {Q : Exit → Act → World → Prop}
    {t ty e : TypeId} {z : Value} {bytes : Nat} (ht : P.underlying t = some (.slice e)) (hi : (P.info? e).map (fun i => (i.zero, i.size, i.bytes)) = some (some z, 1, bytes)) (hz : z.cells.size = 1)
    (hg : o.guard = none) (s x : Operand) (hty : o.type = ty) (hop : o.op = Op.call { callee := Callee.builtin Builtin.append, args := #[s, x], argTypes := #[t, t] })
    {base : Nat} {v vx : Value} {n : Nat} {xs news : List Value} (hs : a.eval s = v) (hx : a.eval x = vx) (hown : w.ownsRow base e 1 v n xs) (hsl : Sl w e vx news) (h1 : ∀ u ∈ news, u.oneCell' = true)
    (h63 : n + news.length ≤ maxLen) (hb : (n + news.length) * bytes ≤ 140737488355328) (hbase : base ≤ w.heap.size)
    (hK : ∀ v' w', w'.ownsRow base e 1 v' (n + news.length) (xs ++ news) → w.grownBy w' v.ownBlock → wpList P ops Q rest (a.put o.dst v') w') : wpList P ops Q (o :: rest) a w := by
  obtain ⟨v', w', hr, h2, h3⟩ := run_append_sl (ty := ty) ht hi hz hown hsl h1 h63 hb hbase
  exact wpList_append_run hr hg s x hty hop hs hx (hK v' w' h2 h3)
theorem step_append_sl {P : Program} {w : World} {ops : Array Oper} {o : Oper} {a : Act} {K : Act → World → Prop} {Q : Exit → Act → World → Prop} {E : Prop}
    {t ty e : TypeId} {z : Value} {bytes : Nat} (ht : P.underlying t = some (.slice e)) (hi : (P.info? e).map (fun i => (i.zero, i.size, i.bytes)) = some (some z, 1, bytes)) (hz : z.cells.size = 1)
    (hg : o.guard = none) (s x : Operand) (hty : o.type = ty) (hop : o.op = Op.call { callee := Callee.builtin Builtin.append, args := #[s, x], argTypes := #[t, t] })
    {base : Nat} {v vx : Value} {n : Nat} {xs news : List Value} (hs : a.eval s = v) (hx : a.eval x = vx) (hown : w.ownsRow base e 1 v n xs) (hsl : Sl w e vx news) (h1 : ∀ u ∈ news, u.oneCell' = true)
    (h63 : n + news.length ≤ maxLen) (hb : (n + news.length) * bytes ≤ 140737488355328) (hbase : base ≤ w.heap.size)
    (hK : ∀ v' w', w'.ownsRow base e 1 v' (n + news.length) (xs ++ news) → w.grownBy w' v.ownBlock → K (a.put o.dst v') w') :
    if Region.wanted o (yielded ops a.tmps) = true then Oper.wp P o a w K Q else E := by
  have hw : Region.wanted o (yielded ops a.tmps) = true := by simp [Region.wanted, hg]
  rw [if_pos hw]
  obtain ⟨v', w', hr, h2, h3⟩ := run_append_sl (ty := ty) ht hi hz hown hsl h1 h63 hb hbase
  subst hty
  unfold Oper.wp
  simp [execOp, hop, resolve, invoke, builtin, hs, hx, hr, Result.andThen]
  exact hK v' w' h2 h3
/-- the slice over a new block of one cell -/
theorem Sl.one {w : World} {e : TypeId} {b : Nat} {u : Value} (h : w.heap[b]? = some (.cells #[u] e (0, 0))) : Sl w e (.slice (some ⟨b, 0, none⟩) 1 1) [u] :=
  ⟨_, 1, rfl, Nat.le_refl _, .inr ⟨b, 0, _, _, rfl, h, fun j hj => by simp at hj; subst hj; rfl⟩, fun h => by cases h⟩
theorem Sl.one2 (w : World) (A : Obj) (e : TypeId) (u : Value) : Sl ((w.alloc A).alloc (.cells #[u] e)).drew e (.slice (some ⟨w.heap.size + 1, 0, none⟩) 1 1) [u] :=
  Sl.one (w := ((w.alloc A).alloc (.cells #[u] e)).drew) (heap_alloc2_new w A (.cells #[u] e))
/-- rows of unlike elements lie apart -/
theorem owns_apart {w : World} {b1 b2 : Nat} {e1 e2 : TypeId} {s1 s2 : Nat} {v1 v2 : Value} {n1 n2 : Nat} {x1 x2 : List Value} (h1 : w.ownsRow b1 e1 s1 v1 n1 x1) (h2 : w.ownsRow b2 e2 s2 v2 n2 x2) (hne : e1 ≠ e2) :
    v1.ownBlock = none ∨ v1.ownBlock ≠ v2.ownBlock := by
  rcases h1.2 with ⟨rfl, _⟩ | ⟨g, cap, cur, rfl, _, hg, _⟩
  · exact .inl rfl
  · rcases h2.2 with ⟨rfl, _⟩ | ⟨g2, cap2, cur2, rfl, _, hg2, _⟩
    · exact .inr (by simp [Value.ownBlock])
    · refine .inr ?_
      simp only [Value.ownBlock]
      intro e
      injection e with e
      subst e
      rw [hg] at hg2
      injection hg2 with hg2
      injection hg2 with _ h _
      exact hne h
theorem owns_ne {w : World} {b1 : Nat} {e1 : TypeId} {s1 : Nat} {v1 : Value} {n1 : Nat} {x1 : List Value} (h1 : w.ownsRow b1 e1 s1 v1 n1 x1) {b : Nat} {o : Obj} (hb : w.heap[b]? = some o) (hne : ∀ c f, o ≠ .cells c e1 f) :
    some b ≠ v1.ownBlock := by
  rcases h1.2 with ⟨rfl, _⟩ | ⟨g, cap, cur, rfl, _, hg, _⟩
  · simp [Value.ownBlock]
  · simp only [Value.ownBlock]
    intro e
    injection e with e
    subst e
    rw [hb] at hg
    injection hg with hg
    exact hne _ _ hg
theorem owns_len {w : World} {base : Nat} {e : TypeId} {v : Value} {n : Nat} {xs : List Value} (h : w.ownsRow base e 1 v n xs) : ∃ A c, v = .slice A n c ∧ n ≤ c ∧ xs.length = n := by
  obtain ⟨hl, h⟩ := h
  rcases h with ⟨rfl, rfl⟩ | ⟨g, cap, cur, rfl, _, _, hn, _⟩
  · exact ⟨none, 0, rfl, Nat.le_refl _, by omega⟩
  · exact ⟨_, cap, rfl, hn, by omega⟩
theorem owns_base {w : World} {base base' : Nat} {e : TypeId} {size : Nat} {v : Value} {n : Nat} {xs : List Value} (h : w.ownsRow base e size v n xs) (hb : base' ≤ base) : w.ownsRow base' e size v n xs := by
  obtain ⟨h1, h2⟩ := h
  refine ⟨h1, ?_⟩
  rcases h2 with h2 | ⟨g, cap, cur, hv, hg, r⟩
  · exact .inl h2
  · exact .inr ⟨g, cap, cur, hv, by omega, r⟩
theorem owns_only {S : Nat → Prop} {w w' : World} {base : Nat} {e : TypeId} {size : Nat} {v : Value} {n : Nat} {xs : List Value} (h : w.ownsRow base e size v n xs) (ho : Only S w w') (hS : ∀ k, v.ownBlock = some k → ¬ S k) : w'.ownsRow base e size v n xs := by
  obtain ⟨h1, h2⟩ := h
  refine ⟨h1, ?_⟩
  rcases h2 with h2 | ⟨g, cap, cur, hv, hg, hh, r⟩
  · exact .inl h2
  · exact .inr ⟨g, cap, cur, hv, hg, ho.get hh (hS g (by rw [hv]; rfl)), r⟩
/-- a row of n times z -/
def zrow (z : Value) (n : Nat) : Array Value := (List.replicate n z).toArray
theorem zrow_toList (z : Value) (n : Nat) : (zrow z n).toList = List.replicate n z := rfl
theorem zrow_size (z : Value) (n : Nat) : (zrow z n).size = n := by simp [zrow]
theorem run_make_z {P : Program} {t e : TypeId} {z : Value} {bytes : Nat} (ht : P.underlying t = some (.slice e)) (hi : (P.info? e).map (fun i => (i.zero, i.size, i.bytes)) = some (some z, 1, bytes)) (hz : z.cells = #[z])
    (kl kc : IntKind) (c : Nat) (hb : bytes * c ≤ 281474976710656) (h63 : c ≤ 9223372036854775807) (w : World) :
    (Instr.makeSlice t (.int kl (c : Int)) (.int kc (c : Int))).run P w = .ok (.slice (some ⟨w.heap.size, 0, none⟩) c c) (w.alloc (.cells (zrow z c) e)) := by
  obtain ⟨i, hi, hz0, hz1, hz2⟩ := info_parts hi
  have h : ((i.bytes * c : Nat) : Int) ≤ 281474976710656 := by rw [hz2]; omega
  rw [Int.natCast_mul] at h
  have := run_make (P := P) w t e i z ht hi hz0 kl kc c c (by omega) (by omega) h (by omega)
  rw [Int.toNat_natCast, hz1, Nat.mul_one, hz] at this
  rw [this]
  congr 3
  exact Array.ext' (by rw [toList_madeCells_one, zrow_toList])
theorem owns_zrow {w : World} {base : Nat} {e : TypeId} {z : Value} {c : Nat} (hb : base ≤ w.heap.size) (hc : c ≤ maxLen) :
    (w.alloc (.cells (zrow z c) e)).ownsRow base e 1 (.slice (some ⟨w.heap.size, 0, none⟩) c c) c (List.replicate c z) :=
  ⟨by simp, .inr ⟨_, c, _, rfl, hb, get_alloc, Nat.le_refl _, hc, by rw [zrow_size, Nat.mul_one], by rw [zrow_toList, Nat.mul_one, List.take_of_length_le (by simp)]⟩⟩
/-- a clear whose run is known -/
theorem wpList_clear_run {P : Program} {w w' : World} {ops : Array Oper} {rest : List Oper} {o : Oper} {a : Act} {Q : Exit → Act → World → Prop}
    {vx v' : Value} {t ty : TypeId} (hrun : (Builtin.clear_ #[t] ty #[vx]).run P w = .ok v' w') (hg : o.guard = none) (x : Operand) (hty : o.type = ty)
    (hop : o.op = Op.call { callee := Callee.builtin Builtin.clear, args := #[x], argTypes := #[t] }) (hx : a.eval x = vx)
    (hK : wpList P ops Q rest (a.put o.dst v') w') : wpList P ops Q (o :: rest) a w := by
  refine wpList_plain hg fun K hK' => ?_
  subst hty
  unfold Oper.wp
  simp [execOp, hop, resolve, invoke, builtin, hx, hrun, Result.andThen]
  exact hK' _ _ hK

/-! ### maps of ints -/
/-- Block m is a map whose entries are l (keys ints), in the order in which they came. -/
def MapI (w : World) (m : Nat) (l : List (Int × Value)) : Prop :=
  ∃ es clock, w.heap[m]? = some (.map es clock) ∧ es.toList.map (fun e => (e.key, e.val)) = l.map (fun p => (vI p.1, p.2)) ∧
    (es.toList.map (·.born)).Nodup ∧ (∀ e ∈ es.toList, e.born < clock) ∧ (l.map (·.1)).Nodup
section maps
variable {P : Program} {w : World} {m : Nat} {l : List (Int × Value)}
theorem MapI.only {S : Nat → Prop} {w' : World} (h : MapI w m l) (ho : Only S w w') (hn : ¬ S m) : MapI w' m l := by
  obtain ⟨es, clock, hb, r⟩ := h
  exact ⟨es, clock, ho.get hb hn, r⟩
theorem MapI.made (w : World) : MapI (w.alloc (.map #[] 0)) w.heap.size [] := ⟨#[], 0, get_alloc, by simp⟩
theorem findNow_none (k : Int) : ∀ (L : List MapEntry) (i : Nat), (∀ e ∈ L, ∃ k', e.key = vI k' ∧ k' ≠ k) → Instr.findNow (.int .i64) (vI k) L i = some none
  | [], _, _ => rfl
  | e :: L, i, h => by
    obtain ⟨k', hk, hne⟩ := h e (by simp)
    have : (k == k') = false := by simpa using fun h => hne h.symm
    simp only [Instr.findNow, hk, Instr.sameNow, if_true, this]
    exact findNow_none k L (i + 1) (fun e' he => h e' (by simp [he]))
theorem findNow_some (k : Int) (e : MapEntry) (he : e.key = vI k) (L2 : List MapEntry) : ∀ (L : List MapEntry) (i : Nat), (∀ e ∈ L, ∃ k', e.key = vI k' ∧ k' ≠ k) →
    Instr.findNow (.int .i64) (vI k) (L ++ e :: L2) i = some (some (i + L.length, e.val))
  | [], i, _ => by simp [Instr.findNow, he, Instr.sameNow]
  | x :: L, i, h => by
    obtain ⟨k', hk, hne⟩ := h x (by simp)
    have : (k == k') = false := by simpa using fun h => hne h.symm
    simp only [List.cons_append, Instr.findNow, hk, Instr.sameNow, if_true, this]
    rw [findNow_some k e he L2 L (i + 1) (fun e' he => h e' (by simp [he]))]
    simp only [List.length_cons]
    rw [Nat.add_assoc, Nat.add_comm 1]
theorem run_checkKey_int {kt : TypeId} (hk : P.underlying kt = some (.int .i64)) (b : Bool) (k : Int) : (Instr.checkKey b 10000 kt (vI k)).run P w = .ok () w := by
  rw [show (10000 : Nat) = 9999 + 1 from rfl, Instr.checkKey]
  simp [run_underlying hk]
theorem run_keyThatStays (k : Int) : (Instr.keyThatStays (vI k) (vI k)).run P w = .ok (vI k) w := by
  have : Instr.sameBits 10000 (vI k) (vI k) = true := by rw [show (10000 : Nat) = 9999 + 1 from rfl, Instr.sameBits]; simp
  simp [Instr.keyThatStays, this]
theorem modify_mid {α : Type} (f : α → α) (x : α) (l2 : List α) : ∀ l1 : List α, (l1 ++ x :: l2).modify l1.length f = l1 ++ f x :: l2
  | [] => by simp
  | y :: l1 => by simp [modify_mid f x l2 l1]
theorem run_findKey_int {kt : TypeId} (hk : P.underlying kt = some (.int .i64)) (k : Int) (es : List MapEntry) (r : Option (Nat × Value)) (h : Instr.findNow (.int .i64) (vI k) es 0 = some r) :
    (Instr.findKey kt (vI k) es).run P w = .ok r w := by
  simp [Instr.findKey, run_underlying hk, h]
/-- the entries of a map whose key is k, and those around it -/
theorem MapI.split {es : Array MapEntry} (hm : es.toList.map (fun e => (e.key, e.val)) = l.map (fun p => (vI p.1, p.2))) (hnd : (l.map (·.1)).Nodup) {k : Int} {v : Value} (h : (k, v) ∈ l) :
    ∃ L1 e L2, es.toList = L1 ++ e :: L2 ∧ e.key = vI k ∧ e.val = v ∧ ∀ x ∈ L1, ∃ k', x.key = vI k' ∧ k' ≠ k := by
  obtain ⟨l1, l2, rfl⟩ := List.append_of_mem h
  rw [List.map_append, List.map_cons] at hm
  obtain ⟨L1, R, he, h1, h2⟩ := List.map_eq_append_iff.1 hm
  obtain ⟨e, L2, rfl, h3, h4⟩ := List.map_eq_cons_iff.1 h2
  refine ⟨L1, e, L2, he, by simpa using congrArg Prod.fst h3, by simpa using congrArg Prod.snd h3, fun x hx => ?_⟩
  have : (x.key, x.val) ∈ l1.map (fun p => (vI p.1, p.2)) := by rw [← h1]; exact List.mem_map_of_mem hx
  obtain ⟨p, hp, hpe⟩ := List.mem_map.1 this
  refine ⟨p.1, (congrArg Prod.fst hpe).symm, fun hc => ?_⟩
  rw [List.map_append, List.map_cons] at hnd
  have := (List.nodup_append.1 hnd).2.2 p.1 (List.mem_map_of_mem hp) k (by simp)
  exact this hc
theorem MapI.none_of {es : Array MapEntry} (hm : es.toList.map (fun e => (e.key, e.val)) = l.map (fun p => (vI p.1, p.2))) {k : Int} (h : k ∉ l.map (·.1)) :
    ∀ x ∈ es.toList, ∃ k', x.key = vI k' ∧ k' ≠ k := by
  intro x hx
  have : (x.key, x.val) ∈ l.map (fun p => (vI p.1, p.2)) := by rw [← hm]; exact List.mem_map_of_mem (f := fun e : MapEntry => (e.key, e.val)) hx
  obtain ⟨p, hp, hpe⟩ := List.mem_map.1 this
  exact ⟨p.1, (congrArg Prod.fst hpe).symm, fun hc => h (by rw [← hc]; exact List.mem_map_of_mem hp)⟩
theorem run_lookup_yes {t kt et : TypeId} (ht : P.underlying t = some (.map kt et)) (hk : P.underlying kt = some (.int .i64)) (h : MapI w m l) {k : Int} {v : Value} (hl : (k, v) ∈ l) (ok : Bool) :
    (Instr.lookup t (.map (some m)) (vI k) ok).run P w = .ok (if ok then .tuple #[v, .bool true] else v) w := by
  obtain ⟨es, clock, hb, hm, _, _, hnd⟩ := h
  obtain ⟨L1, e, L2, he, hek, hev, h1⟩ := MapI.split hm hnd hl
  have hf : Instr.findNow (.int .i64) (vI k) es.toList 0 = some (some (0 + L1.length, e.val)) := by rw [he]; exact findNow_some k e hek L2 L1 0 h1
  cases ok <;> simp [Instr.lookup, run_underlying ht, getObj, Sem.run, hb, run_checkKey_int hk, run_findKey_int hk k _ _ hf, hev]
theorem run_lookup_no {t kt et : TypeId} (ht : P.underlying t = some (.map kt et)) (hk : P.underlying kt = some (.int .i64)) (h : MapI w m l) {k : Int} (hl : k ∉ l.map (·.1)) {z : Value} (hz : (zeroValue et).run P w = .ok z w) (ok : Bool) :
    (Instr.lookup t (.map (some m)) (vI k) ok).run P w = .ok (if ok then .tuple #[z, .bool false] else z) w := by
  obtain ⟨es, clock, hb, hm, _, _, hnd⟩ := h
  have hf := findNow_none k es.toList 0 (MapI.none_of hm hl)
  cases ok <;> simp [Instr.lookup, run_underlying ht, getObj, Sem.run, hb, run_checkKey_int hk, run_findKey_int hk k _ _ hf, hz]
/-- what a store makes of the entries -/
def putI (l : List (Int × Value)) (k : Int) (v : Value) : List (Int × Value) := if k ∈ l.map (·.1) then l.map (fun p => if p.1 = k then (k, v) else p) else l ++ [(k, v)]
theorem run_mapUpdate_int {t kt et : TypeId} (ht : P.underlying t = some (.map kt et)) (hk : P.underlying kt = some (.int .i64)) (h : MapI w m l) (k : Int) (v : Value) :
    ∃ es' c', (Instr.mapUpdate t (.map (some m)) (vI k) v).run P w = .ok () (setBlock w m (.map es' c')) ∧ MapI (setBlock w m (.map es' c')) m (putI l k v) := by
  obtain ⟨es, clock, hb, hm, hbn, hlt, hnd⟩ := h
  by_cases hmem : k ∈ l.map (·.1)
  · obtain ⟨p, hp, hpk⟩ := List.mem_map.1 hmem
    obtain ⟨L1, e, L2, he, hek, hev, h1⟩ := MapI.split hm hnd (k := k) (v := p.2) (by rw [← hpk]; exact hp)
    have hf : Instr.findNow (.int .i64) (vI k) es.toList 0 = some (some (0 + L1.length, e.val)) := by rw [he]; exact findNow_some k e hek L2 L1 0 h1
    have hes : es = (L1 ++ e :: L2).toArray := by rw [← he]
    have hget : es[L1.length]? = some e := by rw [hes]; simp
    rw [Nat.zero_add] at hf
    refine ⟨es.modify L1.length (fun x => { x with key := vI k, val := v }), clock, ?_, ?_⟩
    · simp [Instr.mapUpdate, run_underlying ht, getObj, Sem.run, hb, run_checkKey_int hk, run_findKey_int hk k _ _ hf, hget, hek, run_keyThatStays, setObj, setBlock]
    · have hmod : (es.modify L1.length (fun x => { x with key := vI k, val := v })).toList = L1 ++ { e with key := vI k, val := v } :: L2 := by
        rw [hes, Array.toList_modify]; exact modify_mid _ _ _ _
      refine ⟨_, clock, get_setBlock hb, ?_, ?_, ?_, ?_⟩
      · rw [hmod]
        rw [he] at hm
        rw [List.map_append, List.map_cons] at hm ⊢
        obtain ⟨l1, R, hl, h1', h2'⟩ := List.map_eq_append_iff.1 hm.symm
        obtain ⟨q, l2, rfl, h3', h4'⟩ := List.map_eq_cons_iff.1 h2'
        subst hl
        have hqk : q.1 = k := by have := congrArg Prod.fst h3'; rw [hek] at this; simpa using this
        have hl1 : ∀ x ∈ l1, x.1 ≠ k := by
          intro x hx hc
          rw [List.map_append, List.map_cons] at hnd
          exact (List.nodup_append.1 hnd).2.2 x.1 (List.mem_map_of_mem hx) q.1 (by simp) (by rw [hc, hqk])
        have hl2 : ∀ x ∈ l2, x.1 ≠ k := by
          intro x hx hc
          rw [List.map_append, List.map_cons] at hnd
          exact (List.nodup_cons.1 (List.nodup_append.1 hnd).2.1).1 (by rw [hqk, ← hc]; exact List.mem_map_of_mem hx)
        unfold putI
        rw [if_pos hmem, List.map_append, List.map_cons, List.map_append, List.map_cons, if_pos hqk]
        rw [show l1.map (fun p => if p.1 = k then (k, v) else p) = l1 from by
          conv => rhs; rw [← List.map_id l1]
          exact List.map_congr_left (fun x hx => by simp [hl1 x hx])]
        rw [show l2.map (fun p => if p.1 = k then (k, v) else p) = l2 from by
          conv => rhs; rw [← List.map_id l2]
          exact List.map_congr_left (fun x hx => by simp [hl2 x hx])]
        rw [h1', h4']
      · rw [hmod]; rw [he] at hbn; simpa using hbn
      · intro x hx
        rw [hmod] at hx
        rw [he] at hlt
        simp only [List.mem_append, List.mem_cons] at hx hlt
        rcases hx with hx | rfl | hx
        · exact hlt x (.inl hx)
        · exact hlt e (.inr (.inl rfl))
        · exact hlt x (.inr (.inr hx))
      · have : (putI l k v).map (·.1) = l.map (·.1) := by
          unfold putI; rw [if_pos hmem, List.map_map]
          refine List.map_congr_left (fun x _ => ?_)
          simp only [Function.comp]
          split <;> simp_all
        rw [this]; exact hnd
  · have hf := findNow_none k es.toList 0 (MapI.none_of hm hmem)
    refine ⟨es.push { key := vI k, val := v, born := clock }, clock + 1, ?_, ?_⟩
    · simp [Instr.mapUpdate, run_underlying ht, getObj, Sem.run, hb, run_checkKey_int hk, run_findKey_int hk k _ _ hf, setObj, setBlock]
    · refine ⟨_, _, get_setBlock hb, ?_, ?_, ?_, ?_⟩
      · unfold putI; rw [if_neg hmem]; simp [hm]
      · simp only [Array.toList_push, List.map_append, List.map_cons, List.map_nil]
        refine List.nodup_append.2 ⟨hbn, by simp, ?_⟩
        intro x hx y hy
        obtain ⟨e, he, rfl⟩ := List.mem_map.1 hx
        have := hlt e he
        simp at hy; omega
      · intro e he
        simp only [Array.toList_push, List.mem_append, List.mem_singleton] at he
        rcases he with he | rfl
        · have := hlt e he; omega
        · show clock < clock + 1; omega
      · unfold putI; rw [if_neg hmem, List.map_append]
        refine List.nodup_append.2 ⟨hnd, by simp, ?_⟩
        intro x hx y hy
        simp at hy; subst hy
        intro hc; subst hc; exact hmem hx
theorem run_mapUpdate_all {t kt et : TypeId} (ht : P.underlying t = some (.map kt et)) (hk : P.underlying kt = some (.int .i64)) (h : ∃ l, MapI w m l) (k : Int) (v : Value) :
    ∃ es' c', (Instr.mapUpdate t (.map (some m)) (vI k) v).run P w = .ok () (setBlock w m (.map es' c')) ∧ ∀ l, MapI w m l → MapI (setBlock w m (.map es' c')) m (putI l k v) := by
  obtain ⟨l0, h0⟩ := h
  obtain ⟨es', c', hr, _⟩ := run_mapUpdate_int ht hk h0 k v
  refine ⟨es', c', hr, fun l hl => ?_⟩
  obtain ⟨es2, c2, hr2, hm⟩ := run_mapUpdate_int ht hk hl k v
  rw [hr] at hr2
  injection hr2 with _ hw
  rw [hw]; exact hm
theorem run_clear_map {t kt et ty : TypeId} (ht : P.underlying t = some (.map kt et)) (h : MapI w m l) :
    ∃ c, (Builtin.clear_ #[t] ty #[.map (some m)]).run P w = .ok (.tuple #[]) (setBlock w m (.map #[] c)) ∧ MapI (setBlock w m (.map #[] c)) m [] := by
  obtain ⟨es, clock, hb, _⟩ := h
  refine ⟨clock, ?_, #[], clock, get_setBlock hb, by simp⟩
  simp [Builtin.clear_, run_underlying ht, getObj, Sem.run, hb, setObj, setBlock]
end maps
end Go.Proofs.YtbgcelfmelpbeaaDoor
