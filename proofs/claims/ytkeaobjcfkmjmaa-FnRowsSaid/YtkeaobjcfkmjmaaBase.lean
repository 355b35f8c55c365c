/- Words for memory that the proofs of this seat share: no statement of the seat is proved here. -/
import Derived.WalkKit
import Derived.WalkSpells
import Derived.WalkLawsBesides
import Derived.Deep.QuietTactic
import Derived.BigQuiet
import Derived.Lib.Hide
import Derived.Deep.Slices
import Derived.Deep.Fields
import Derived.ChangeSame
import Derived.Shelf.Abstract
namespace Go.Proofs.Ytkeaobjcfkmjmaa
open Go.RowKit

/-- From w on only new memory has been laid or written. -/
def Bl (w w' : World) : Prop := Below w.heap.size w w'
theorem Bl.refl (w : World) : Bl w w := Below.refl _ _
theorem Bl.trans {a b c : World} (h : Bl a b) (k : Bl b c) : Bl a c := Below.trans h (Below.mono k h.size)
theorem Bl.alloc {a w : World} (h : Bl a w) (o : Obj) : Bl a (w.alloc o) := Below.alloc h h.size o
theorem Bl.drew {a w : World} (h : Bl a w) : Bl a w.drew := Below.drew h
theorem Bl.setCell {a w : World} (h : Bl a w) {p : Addr} (hp : a.heap.size ≤ p.block) (u : Value) : Bl a (w.setCell p u) := Below.setCell h hp u
theorem Bl.le {a w : World} (h : Bl a w) : a.heap.size ≤ w.heap.size := h.size
theorem Bl.grown {a w w' : World} {row : Option Nat} (h : Bl a w) (hg : w.grownBy w' row) (hr : ∀ k, row = some k → a.heap.size ≤ k) : Bl a w' :=
  Below.grown h hg h.size hr
theorem Bl.cell {w w' : World} (h : Bl w w') {p : Addr} {u : Value} (hc : w.cell? p = some u) : w'.cell? p = some u :=
  (Below.cell h (World.block_lt_of_cell? w p hc)).trans hc
theorem Bl.all {w : World} {p : Addr} {u : Value} (hc : w.cell? p = some u) : ∀ W, Bl w W → W.cell? p = some u := fun _ h => h.cell hc
theorem Bl.own {w w' : World} (h : Bl w w') {B E k n : Nat} {v : Value} {xs : List Value} (ho : w.ownsRow B E k v n xs) : w'.ownsRow B E k v n xs := by
  refine ⟨ho.1, ?_⟩
  rcases ho.2 with hn | ⟨g, cap, cur, hv, hb, hg, rest⟩
  · exact .inl hn
  · exact .inr ⟨g, cap, cur, hv, hb, (Below.block h g (Array.getElem?_eq_some_iff.1 hg).1).trans hg, rest⟩
theorem own_mono {w : World} {B B' E k n : Nat} {v : Value} {xs : List Value} (ho : w.ownsRow B E k v n xs) (h : B' ≤ B) : w.ownsRow B' E k v n xs := by
  refine ⟨ho.1, ?_⟩
  rcases ho.2 with hn | ⟨g, cap, cur, hv, hb, rest⟩
  · exact .inl hn
  · exact .inr ⟨g, cap, cur, hv, Nat.le_trans h hb, rest⟩

/-- The greatest number of elements that is spoken of. -/
def topLen : Nat := 9223372036854775807
theorem topLen_eq : topLen = 9223372036854775807 := rfl

/-- The slice with address A and n elements of k cells reads as l; f: an element's cells. -/
def Sl {α : Type} (f : α → List Value) (k : Nat) (w : World) (A : Option Addr) (n : Nat) (l : List α) : Prop :=
  l.length = n ∧ n ≤ topLen ∧ (0 < n → ∃ b o, A = some ⟨b, o, none⟩ ∧ ∀ i x, l[i]? = some x → ∀ j u, (f x)[j]? = some u → w.cell? ⟨b, o + i * k + j, none⟩ = some u)
section
variable {α : Type} {f : α → List Value} {k : Nat} {w w' : World} {A : Option Addr} {n : Nat} {l : List α}
theorem Sl.bl (h : Sl f k w A n l) (hb : Bl w w') : Sl f k w' A n l :=
  ⟨h.1, h.2.1, fun hn => let ⟨b, o, e, hc⟩ := h.2.2 hn; ⟨b, o, e, fun i x hi j u hu => hb.cell (hc i x hi j u hu)⟩⟩
theorem Sl.drew (h : Sl f k w A n l) : Sl f k w.drew A n l := h
theorem Sl.nil_ : Sl f k w A 0 [] := ⟨rfl, Nat.zero_le _, fun h => absurd h (by omega)⟩
theorem Sl.len (h : Sl f k w A n l) : l.length = n := h.1
theorem Sl.le (h : Sl f k w A n l) : n ≤ 9223372036854775807 := h.2.1
theorem Sl.at_ (h : Sl f k w A n l) {i : Nat} (hi : i < n) : ∃ b o x, A = some ⟨b, o, none⟩ ∧ l[i]? = some x ∧ ∀ j u, (f x)[j]? = some u → w.cell? ⟨b, o + i * k + j, none⟩ = some u := by
  obtain ⟨b, o, e, hc⟩ := h.2.2 (by omega)
  have hl : i < l.length := by rw [h.1]; exact hi
  exact ⟨b, o, l[i], e, List.getElem?_eq_getElem hl, hc i _ (List.getElem?_eq_getElem hl)⟩
theorem Sl.of_fun {a : Addr} (hk : ∀ x : α, 0 < (f x).length) (g : Nat → α) (hn : n ≤ 9223372036854775807) (h : ∀ i, i < n → ∀ j u, (f (g i))[j]? = some u → w.cell? (a.add (i * k + j)) = some u) : Sl f k w (some a) n ((List.range n).map g) := by
  refine ⟨by simp, hn, fun h0 => ?_⟩
  obtain ⟨b, o, s⟩ := a
  have hs : s = none := by
    have hl := hk (g 0)
    have h1 := h 0 h0 0 (f (g 0))[0] (List.getElem?_eq_getElem hl)
    simp [Addr.add] at h1
    simpa using World.cell?_spot h1
  subst hs
  refine ⟨b, o, rfl, fun i x hx j u hu => ?_⟩
  have hi : i < n := by have := (List.getElem?_eq_some_iff.1 hx).1; simpa using this
  have hx' : g i = x := by simpa [hi] using hx
  subst hx'
  have h2 := h i hi j u hu
  rwa [Addr.add_lit, ← Nat.add_assoc] at h2
theorem Sl.take_ (h : Sl f k w A n l) {i : Nat} (hi : i ≤ n) : Sl f k w A i (l.take i) := by
  refine ⟨by rw [List.length_take, h.1]; omega, by have := h.2.1; omega, fun h0 => ?_⟩
  obtain ⟨b, o, e, hc⟩ := h.2.2 (by omega)
  refine ⟨b, o, e, fun j x hx u v hv => hc j x ?_ u v hv⟩
  rw [List.getElem?_take] at hx
  split at hx
  · exact hx
  · cases hx
theorem flat_get (f : α → List Value) (k : Nat) (hf : ∀ x, (f x).length = k) (l : List α) (i : Nat) (x : α) (hi : l[i]? = some x) (j : Nat) (hj : j < k) :
    (l.flatMap f)[i * k + j]? = (f x)[j]? := by
  induction l generalizing i with
  | nil => simp at hi
  | cons y l ih =>
    rw [List.flatMap_cons]
    cases i with
    | zero =>
      simp at hi
      subst hi
      rw [Nat.zero_mul, Nat.zero_add, List.getElem?_append_left (by rw [hf]; exact hj)]
    | succ i =>
      have e : (i + 1) * k + j = (f y).length + (i * k + j) := by rw [hf, Nat.succ_mul]; omega
      rw [e, List.getElem?_append_right (by omega), Nat.add_sub_cancel_left]
      exact ih i (by simpa using hi)
theorem Sl.of_own {B E c : Nat} (hf : ∀ x, (f x).length = k) (ho : w.ownsRow B E k (.slice A n c) n (l.flatMap f)) (hn : l.length = n) (hle : n ≤ 9223372036854775807) : Sl f k w A n l := by
  refine ⟨hn, hle, fun h0 => ?_⟩
  rcases ho.2 with ⟨_, h⟩ | ⟨g, cap, cur, hv, _, _⟩
  · omega
  · injection hv with hv _ _
    subst hv
    refine ⟨g, 0, rfl, fun i x hi j u hu => ?_⟩
    have hj : j < k := by rw [← hf x]; exact (List.getElem?_eq_some_iff.1 hu).1
    have hx := World.ownsRow.cells ho (g := g) rfl (i * k + j) u ((flat_get f k hf l i x hi j hj).trans hu)
    have e : (⟨g, 0, none⟩ : Addr).add (i * k + j) = ⟨g, 0 + i * k + j, none⟩ := by
      unfold Addr.add
      split
      · rename_i h; rw [Nat.zero_add, h]
      · simp [Nat.add_assoc]
    rwa [e] at hx
end
/-- The cells of a slice of integers. -/
def ci (x : Int) : List Value := [.int .i64 x]
theorem ci_len (x : Int) : (ci x).length = 1 := rfl
theorem Sl.int {w : World} {A : Option Addr} {n : Nat} {l : List Int} (h : Sl ci 1 w A n l) {i : Nat} (hi : i < n) : ∃ b o x, A = some ⟨b, o, none⟩ ∧ l[i]? = some x ∧ ∀ W, Bl w W → W.cell? ⟨b, o + i, none⟩ = some (.int .i64 x) := by
  obtain ⟨b, o, x, e, hx, hc⟩ := h.at_ hi
  refine ⟨b, o, x, e, hx, Bl.all ?_⟩
  have := hc 0 _ rfl
  rwa [Nat.mul_one, Nat.add_zero] at this

/-- Equal or not, as the walk's tests have it. -/
def eqB {α : Type} [DecidableEq α] (a b : α) : Bool := decide (a = b)
theorem eqB_yes {α : Type} [DecidableEq α] {a b : α} (h : a = b) : eqB a b = true := by simpa [eqB] using h
theorem eqB_no {α : Type} [DecidableEq α] {a b : α} (h : a ≠ b) : eqB a b = false := by simpa [eqB] using h
theorem eqB_self {α : Type} [DecidableEq α] (a : α) : eqB a a = true := eqB_yes rfl
/-- Within bounds. -/
def inB (x a b : Int) : Bool := decide (a ≤ x) && decide (x ≤ b)
theorem inB_iff {x a b : Int} : inB x a b = true ↔ a ≤ x ∧ x ≤ b := by simp [inB]
theorem inB_no {x a b : Int} : inB x a b = false ↔ ¬ (a ≤ x ∧ x ≤ b) := by rw [← inB_iff]; simp
theorem ite_min (x y : Int) : (if y < x then y else x) = min x y := by omega
theorem ite_max (x y : Int) : (if x < y then y else x) = max x y := by omega
theorem take_one {α : Type} {l : List α} {k : Nat} {x : α} (h : l[k]? = some x) : l.take (k + 1) = l.take k ++ [x] := by rw [List.take_add_one, h]; rfl
theorem all_one {α : Type} {l : List α} {k : Nat} {x : α} (f : α → Bool) (h : l[k]? = some x) : (l.take (k + 1)).all f = ((l.take k).all f && f x) := by rw [take_one h]; simp
theorem all_not {α : Type} {l : List α} {k : Nat} {x : α} {f : α → Bool} (h : l[k]? = some x) (hx : f x = false) : l.all f = false := by
  rw [List.all_eq_false]; exact ⟨x, List.mem_of_getElem? h, by simp [hx]⟩
theorem take_all {α : Type} {l : List α} {n : Nat} (h : l.length = n) : l.take n = l := List.take_of_length_le (by omega)
theorem any_not {α : Type} (f : α → Bool) (l : List α) : (l.any fun p => !f p) = !l.all f := by
  rw [List.any_eq_not_all_not]; simp
theorem dec_lt (x y : Int) : decide (y < x) = !decide (x ≤ y) := by
  by_cases h : x ≤ y
  · simp [h]
  · simp [Int.not_le.1 h]
theorem dec_yes {x y : Int} (h : decide (x ≤ y) = true) : decide (y < x) = false := by rw [dec_lt, h]; rfl
theorem dec_no {x y : Int} (h : decide (x ≤ y) = false) : decide (y < x) = true := by rw [dec_lt, h]; rfl
/-- What a call hands back: a slice of its own, n elements of k cells, which reads as xs. -/
def NewRow (w : World) (E k n : Nat) (xs : List Value) (e : Ending) (w' : World) : Prop := ∃ B c, e = .returned (.slice B n c) ∧ w'.ownsRow w.heap.size E k (.slice B n c) n xs ∧ Bl w w'
/-- A cell of an owned row: there is one, and it isn't frozen. -/
theorem own_some {w : World} {B E k n g c : Nat} {xs : List Value} (h : w.ownsRow B E k (.slice (some ⟨g, 0, none⟩) n c) n xs) {j : Nat} (hj : j < n * k) : ∃ u, w.cell? ⟨g, j, none⟩ = some u := by
  rw [World.ownsRow.cellAt h j hj]
  exact ⟨_, List.getElem?_eq_getElem (by rw [h.1]; exact hj)⟩
theorem own_set {w : World} {B E k n g c : Nat} {xs : List Value} (h : w.ownsRow B E k (.slice (some ⟨g, 0, none⟩) n c) n xs) (j : Nat) (u : Value) : (w.setCell ⟨g, j, none⟩ u).ownsRow B E k (.slice (some ⟨g, 0, none⟩) n c) n (xs.set j u) :=
  (World.ownsRow.stored h j u).1
theorem grown_set {w W : World} {g : Nat} (h : w.grownBy W (some g)) (j : Nat) (u : Value) : w.grownBy (W.setCell ⟨g, j, none⟩ u) (some g) :=
  ⟨h.os, h.tape, h.output, by simpa [World.setCell] using h.size, fun k hk hne => (Below.heap_setCell W ⟨g, j, none⟩ u k (fun e => hne (by rw [e]))).trans (h.block k hk hne)⟩
/-- The first m cells of xs are those of ys. -/
def Same (m : Nat) (xs ys : List Value) : Prop := ∀ j, j < m → xs[j]? = ys[j]?
theorem Same.zero (xs ys : List Value) : Same 0 xs ys := fun _ h => absurd h (by omega)
theorem Same.set_ {m j : Nat} {xs ys : List Value} (h : Same m xs ys) (hj : m ≤ j) (u : Value) : Same m (xs.set j u) ys := fun i hi => by
  rw [List.getElem?_set_ne (by omega)]; exact h i hi
theorem Same.step {m : Nat} {xs ys : List Value} {u : Value} (h : Same m xs ys) (hx : m < xs.length) (hy : ys[m]? = some u) : Same (m + 1) (xs.set m u) ys := fun i hi => by
  by_cases e : i = m
  · subst e; rw [List.getElem?_set_self hx, hy]
  · rw [List.getElem?_set_ne (by omega)]; exact h i (by omega)
theorem Same.all {m : Nat} {xs ys : List Value} (h : Same m xs ys) (hx : xs.length = m) (hy : ys.length = m) : xs = ys :=
  List.ext_getElem? fun i => by
    by_cases e : i < m
    · exact h i e
    · rw [List.getElem?_eq_none (by omega), List.getElem?_eq_none (by omega)]
theorem flat_len {α : Type} (f : α → List Value) (k : Nat) (hf : ∀ x, (f x).length = k) (l : List α) : (l.flatMap f).length = l.length * k := by
  induction l with
  | nil => simp
  | cons x l ih => rw [List.flatMap_cons, List.length_append, hf, ih, List.length_cons, Nat.succ_mul]; omega
/-- The cells k, k + 1, .. -/
def marks (k : Int) (m : Nat) : List Value := (List.range m).map fun (i : Nat) => .int .i64 (k + (i : Int))
theorem marks_len (k : Int) (m : Nat) : (marks k m).length = m := by simp [marks]
theorem marks_get (k : Int) (m j : Nat) (hj : j < m) : (marks k m)[j]? = some (.int .i64 (k + (j : Int))) := by
  simp [marks, hj]
/-- What 'mark' leaves: the row of v reads k, k + 1, ..; nothing else has been written. -/
def Marked (w : World) (B E s n c : Nat) (A : Option Addr) (k : Int) (e : Ending) (w' : World) : Prop :=
  e = .returned (.int .i64 (k + (n * s : Nat))) ∧ w'.ownsRow B E s (.slice A n c) n (marks k (n * s)) ∧ w.grownBy w' (Value.slice A n c).ownBlock
theorem own_forms {w : World} {B E s n c : Nat} {A : Option Addr} {xs : List Value} (h : w.ownsRow B E s (.slice A n c) n xs) : (A = none ∧ n = 0 ∧ c = 0 ∧ xs = []) ∨ ∃ g, A = some ⟨g, 0, none⟩ := by
  rcases h.2 with ⟨hv, hn⟩ | ⟨g, cap, cur, hv, _⟩
  · injection hv with h1 h2 h3
    subst h1 h2 h3
    exact .inl ⟨rfl, rfl, rfl, List.eq_nil_of_length_eq_zero (by rw [h.1, Nat.zero_mul])⟩
  · injection hv with h1
    exact .inr ⟨g, h1⟩
theorem own_cap {w : World} {B E s n c : Nat} {A : Option Addr} {xs : List Value} (h : w.ownsRow B E s (.slice A n c) n xs) : n ≤ c := by
  rcases h.2 with ⟨hv, hn⟩ | ⟨g, cap, cur, hv, _, _, hc, _⟩
  · injection hv with _ _ h3
    omega
  · injection hv with _ _ h3
    omega
theorem own_lt {w : World} {B E s n : Nat} {v : Value} {xs : List Value} (h : w.ownsRow B E s v n xs) : Hid (∀ k, v.ownBlock = some k → B ≤ k ∧ k < w.heap.size) := World.ownsRow.lt h
theorem apart_of {v1 v2 : Value} {a1 z1 a2 z2 : Nat} (h1 : Hid (∀ k, v1.ownBlock = some k → a1 ≤ k ∧ k < z1)) (h2 : Hid (∀ k, v2.ownBlock = some k → a2 ≤ k ∧ k < z2)) (h : z1 ≤ a2 ∨ z2 ≤ a1) : v1.ownBlock = none ∨ v1.ownBlock ≠ v2.ownBlock := by
  cases e : v1.ownBlock with
  | none => exact .inl rfl
  | some k =>
    refine .inr fun e2 => ?_
    have := h1.out k e
    have := h2.out k e2.symm
    omega
theorem grown_bl {a w w' : World} {v : Value} {b z : Nat} (h : Bl a w) (hg : w.grownBy w' v.ownBlock) (hl : Hid (∀ k, v.ownBlock = some k → b ≤ k ∧ k < z)) (hb : a.heap.size ≤ b) : Bl a w' :=
  h.grown hg fun k hk => Nat.le_trans hb (hl.out k hk).1
/-- What a function hands back that makes a slice: F puts it among the results. -/
def NewRes {α : Type} (f : α → List Value) (k E : Nat) (R : List α) (F : Value → Value) (w : World) (e : Ending) (w' : World) : Prop :=
  ∃ B m c, e = .returned (F (.slice B m c)) ∧ w'.ownsRow w.heap.size E k (.slice B m c) m (R.flatMap f) ∧ R.length = m ∧ m ≤ 1048576 ∧ Bl w w'
/-- A box that has just been laid, in every later world. -/
theorem box_at (w : World) (cs : Array Value) (T : TypeId) (i : Nat) (u : Value) (h : cs[i]? = some u) : ∀ W, Bl (w.alloc (.cells cs T)) W → W.cell? ⟨w.heap.size, i, none⟩ = some u :=
  Bl.all (w := w.alloc (.cells cs T)) (by rw [cell_of_row _ _ i cs T (0, 0) (heap_alloc_new w _)]; exact h)
/-- A quiet region over the class of all later worlds. -/
theorem region_bl {P : Program} {w0 : World} {id : Nat} {Q : Exit → Act → World → Prop} {a : Act} {w : World} {l : List Oper} (hm : P.follows .mixedOrders = true) (hB : Region.lexB .any l.toArray = true) (hw : Bl w0 w)
    (h : wpQuiet P l.toArray (Bl w0) (fun a' => ∀ w', Bl w0 w' → Q .normal a' w') l a) : (Code.region id l.toArray true).wp P Q a w :=
  wp_region_quiet (C := Bl w0) hm hB (Bl.drew hw) (by simpa using h)
theorem ret_bl {P : Program} {f : FuncId} {args : Array Value} {w0 W : World} {v : Value} (hw : Bl w0 W) (h : Calls P f args W fun e w' => e = .returned v ∧ Bl W w') : Calls P f args W fun e w' => e = .returned v ∧ Bl w0 w' :=
  h.mono fun _ _ h => ⟨h.1, hw.trans h.2⟩
theorem same_bl {P : Program} {f : FuncId} {args : Array Value} {W : World} {v : Value} (h : Calls P f args W fun e w' => e = .returned v ∧ W = w') : Calls P f args W fun e w' => e = .returned v ∧ Bl W w' :=
  h.mono fun _ w' h => ⟨h.1, by have := h.2; subst this; exact Bl.refl _⟩
end Go.Proofs.Ytkeaobjcfkmjmaa
