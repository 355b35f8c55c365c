/- Slices that are appended to, stored into, marked: in terms of lists. -/
import Derived.Test.YtkeaobjcfkmjmaaBase
import Derived.Maps.AppendAt
import Derived.Deep.AppendLies
namespace Go.Proofs.Ytkeaobjcfkmjmaa
open Go.RowKit
theorem grown_trans {a b c : World} {row : Option Nat} (h : a.grownBy b row) (k : b.grownBy c row) : a.grownBy c row :=
  ⟨k.os.trans h.os, k.tape.trans h.tape, k.output.trans h.output, Nat.le_trans h.size k.size, fun i hi hr => (k.block i (Nat.lt_of_lt_of_le hi h.size) hr).trans (h.block i hi hr)⟩
section
variable {P : Program} {α : Type} {f : α → List Value}
theorem flat_one (f : α → List Value) (h1 : ∀ x, ∀ u ∈ f x, u.oneCell' = true) (l : List α) : ∀ u ∈ l.flatMap f, u.oneCell' = true := by
  intro u hu
  obtain ⟨x, _, hx⟩ := List.mem_flatMap.1 hu
  exact h1 x u hx
/-- The cells of a slice that reads as a list. -/
theorem Sl.cells {k n : Nat} {w : World} {A : Option Addr} {l : List α} (hf : ∀ x, (f x).length = k) (hk : 0 < k) (h : Sl f k w A n l) (hn : 0 < n) : ∃ ad, A = some ad ∧ ∀ j u, (l.flatMap f)[j]? = some u → w.cell? (ad.add j) = some u := by
  obtain ⟨b, o, rfl, hc⟩ := h.2.2 hn
  refine ⟨_, rfl, fun j u hu => ?_⟩
  have hj : j < l.length * k := by
    have := (List.getElem?_eq_some_iff.1 hu).1
    rwa [flat_len f k hf] at this
  have hd : j / k < l.length := (Nat.div_lt_iff_lt_mul hk).2 hj
  have hm : j % k < k := Nat.mod_lt _ hk
  have e : j = j / k * k + j % k := by have := Nat.div_add_mod j k; rw [Nat.mul_comm] at this; omega
  have hx := List.getElem?_eq_getElem hd
  rw [e, flat_get f k hf l (j / k) _ hx (j % k) hm] at hu
  have := hc (j / k) _ hx (j % k) u hu
  have e2 : (⟨b, o, none⟩ : Addr).add j = ⟨b, o + j / k * k + j % k, none⟩ := by
    unfold Addr.add
    split
    · rename_i h0
      subst h0
      simp
    · have : o + j / k * k + j % k = o + j := by omega
      rw [this]
  rw [e2]; exact this
/-- 'append' of all elements of a slice onto a row of the call's own. -/
theorem wpList_append_sl (w : World) {ops : Array Oper} {rest : List Oper} {o : Oper} {a : Act} {Q : Exit → Act → World → Prop} (hgd : o.guard = none) (s x : Operand) (t : TypeId)
    (ho : o.op = .call { callee := .builtin .append, args := #[s, x], argTypes := #[t, t] })
    (base : Nat) (e : TypeId) (i : TypeInfo) (z : Value) (size bytes : Nat) (ht : P.underlying t = some (.slice e)) (hi : P.info? e = some i) (hz : i.zero = some z)
    (hsize : i.size = size) (hby : i.bytes = bytes) (hzs : z.cells.size = size) (hsz : 0 < size)
    (hf : ∀ x, (f x).length = size) (h1 : ∀ x, ∀ u ∈ f x, u.oneCell' = true)
    (v : Value) (n : Nat) (xs : List α) (hs : a.eval s = v) (hown : w.ownsRow base e size v n (xs.flatMap f))
    (A : Option Addr) (m c : Nat) (ys : List α) (hx : a.eval x = .slice A m c) (hr : Sl f size w A m ys)
    (h63 : n + m ≤ maxLen) (hbytes : (n + m) * bytes ≤ 140737488355328) (hbase : base ≤ w.heap.size)
    (h : ∀ B d w', w'.ownsRow base e size (.slice B (n + m) d) (n + m) ((xs ++ ys).flatMap f) → w.grownBy w' v.ownBlock → ((Value.slice B (n + m) d).ownBlock = v.ownBlock ∨ (Value.slice B (n + m) d).ownBlock = some w.heap.size) → wpList P ops Q rest (a.put o.dst (.slice B (n + m) d)) w') : wpList P ops Q (o :: rest) a w := by
  rcases Nat.eq_zero_or_pos m with h0 | h0
  · subst h0
    have hy : ys = [] := List.eq_nil_of_length_eq_zero hr.1
    subst hy
    refine wpList_plain hgd fun K hK => ?_
    have hc0 : ∃ d, v = .slice (match v with | .slice B _ _ => B | _ => none) n d ∧ n ≤ d := by
      rcases hown.2 with ⟨rfl, rfl⟩ | ⟨g, cap, cur, rfl, _, _, hnc, _⟩
      · exact ⟨0, rfl, Nat.le_refl _⟩
      · exact ⟨cap, rfl, hnc⟩
    obtain ⟨d, hv, hnd⟩ := hc0
    have hrun : (Builtin.append_ #[t, t] o.type #[v, .slice A 0 c]).run P w = .ok v w := by
      rcases hown.2 with ⟨rfl, rfl⟩ | ⟨g, cap, cur, rfl, _, _, hnc, _⟩
      · cases A <;> simp [Builtin.append_, run_underlying ht, sizeOf, typeInfo, hi, Builtin.lenOf, Builtin.firstCells, loadCells, loadCellsFrom]
      · cases A <;> simp [Builtin.append_, run_underlying ht, sizeOf, typeInfo, hi, Builtin.lenOf, Builtin.firstCells, loadCells, loadCellsFrom, hnc, storeCells]
    unfold Oper.wp execOp
    simp only [ho, resolve, invoke, builtin, Sem.run_bind, Sem.run_pure, Result.andThen_ok, List.map_toArray, List.map_cons, List.map_nil, hs, hx, hrun]
    have hh := h _ d w (by rw [Nat.add_zero, ← hv]; simpa using hown) (World.grownBy.refl w _) (.inl (by rw [Nat.add_zero, ← hv]))
    rw [Nat.add_zero, ← hv] at hh
    exact hK _ _ hh
  · obtain ⟨ad, rfl, hcells⟩ := hr.cells hf hsz h0
    refine wpList_plain hgd fun K hK => ?_
    obtain ⟨v', w', hrun, h2, h3, _, h5⟩ := run_append_own_at (P := P) w base t o.type e i z size bytes ht hi hz hsize hby hzs hsz v n _ hown ad m c (ys.flatMap f) (by rw [flat_len f size hf, hr.1]) hcells (flat_one f h1 ys) h63 hbytes hbase
    have hc0 : ∃ B d, v' = .slice B (n + m) d := by
      rcases h2.2 with ⟨rfl, e⟩ | ⟨g, cap, cur, rfl, _⟩
      · exact ⟨none, 0, by rw [e]⟩
      · exact ⟨_, _, rfl⟩
    obtain ⟨B, d, rfl⟩ := hc0
    unfold Oper.wp execOp
    simp only [ho, resolve, invoke, builtin, Sem.run_bind, Sem.run_pure, Result.andThen_ok, List.map_toArray, List.map_cons, List.map_nil, hs, hx, hrun]
    exact hK _ _ (h _ _ w' (by rw [List.flatMap_append]; exact h2) h3 h5)
/-- 'append([]T{}, list...)': a row of its own that reads as the list. -/
theorem wpList_append_new (w : World) {ops : Array Oper} {rest : List Oper} {o : Oper} {a : Act} {Q : Exit → Act → World → Prop} (hgd : o.guard = none) (s x : Operand) (t : TypeId)
    (ho : o.op = .call { callee := .builtin .append, args := #[s, x], argTypes := #[t, t] })
    (e : TypeId) (i : TypeInfo) (z : Value) (size bytes : Nat) (ht : P.underlying t = some (.slice e)) (hi : P.info? e = some i) (hz : i.zero = some z)
    (hsize : i.size = size) (hby : i.bytes = bytes) (hzs : z.cells.size = size) (hsz : 0 < size)
    (hf : ∀ x, (f x).length = size) (h1 : ∀ x, ∀ u ∈ f x, u.oneCell' = true)
    (H : Nat) (hs : a.eval s = .slice (some ⟨H, 0, none⟩) 0 0) (hH : w.heap.size = H)
    (A : Option Addr) (m c : Nat) (ys : List α) (hx : a.eval x = .slice A m c) (hr : Sl f size w A m ys)
    (h63 : m ≤ maxLen) (hbytes : m * bytes ≤ 140737488355328)
    (h : ∀ B d w', w'.ownsRow w.heap.size e size (.slice B m d) m (ys.flatMap f) → Bl w w' → wpList P ops Q rest (a.put o.dst (.slice B m d)) w') : wpList P ops Q (o :: rest) a (w.alloc (.cells #[] e)) := by
  subst hH
  refine wpList_append_sl (f := f) (w.alloc (.cells #[] e)) hgd s x t ho w.heap.size e i z size bytes ht hi hz hsize hby hzs hsz hf h1 _ 0 [] hs ?_ A m c ys hx (hr.bl ((Bl.refl w).alloc _)) (by omega) (by rw [Nat.zero_add]; exact hbytes) (by simp) ?_
  · exact World.ownsRow_made w #[] 0 (Nat.le_refl _) (Nat.zero_le _) (by simp)
  · intro B d w' h2 h3 h4
    rw [Nat.zero_add] at h2 h4 ⊢
    exact h B d w' h2 (((Bl.refl w).alloc _).grown h3 (fun k hk => by simp [Value.ownBlock] at hk; omega))
/-- 'append(out, x)': one element more. -/
theorem wpList_append_one (w : World) {ops : Array Oper} {rest : List Oper} {o : Oper} {a : Act} {Q : Exit → Act → World → Prop} (hgd : o.guard = none) (s x : Operand) (t : TypeId)
    (ho : o.op = .call { callee := .builtin .append, args := #[s, x], argTypes := #[t, t] })
    (base : Nat) (e : TypeId) (i : TypeInfo) (z : Value) (size bytes : Nat) (ht : P.underlying t = some (.slice e)) (hi : P.info? e = some i) (hz : i.zero = some z)
    (hsize : i.size = size) (hby : i.bytes = bytes) (hzs : z.cells.size = size) (hsz : 0 < size)
    (hf : ∀ x, (f x).length = size) (h1 : ∀ x, ∀ u ∈ f x, u.oneCell' = true)
    (v : Value) (n : Nat) (xs : List α) (hs : a.eval s = v) (y : α) (H : Nat) (hx : a.eval x = .slice (some ⟨H, 0, none⟩) 1 1) (hH : w.heap.size = H) (W : World) (hW : W = w.alloc (.cells (f y).toArray e))
    (hown : w.ownsRow base e size v n (xs.flatMap f)) (hbase : base ≤ w.heap.size) (h63 : n + 1 ≤ maxLen) (hbytes : (n + 1) * bytes ≤ 140737488355328)
    (h : ∀ B d w', w'.ownsRow base e size (.slice B (n + 1) d) (n + 1) ((xs ++ [y]).flatMap f) → w.grownBy w' v.ownBlock → wpList P ops Q rest (a.put o.dst (.slice B (n + 1) d)) w') : wpList P ops Q (o :: rest) a W := by
  subst hW
  subst hH
  have hsl : Sl f size (w.alloc (.cells (f y).toArray e)) (some ⟨w.heap.size, 0, none⟩) 1 [y] := by
    refine ⟨rfl, by decide, fun _ => ⟨_, 0, rfl, fun i x hi j u hu => ?_⟩⟩
    match i, hi with
    | 0, hi =>
      have := Option.some.inj hi
      subst this
      rw [Nat.zero_mul, Nat.zero_add, cell_of_row _ _ j _ e (0, 0) (heap_alloc_new w _)]
      simpa using hu
    | i + 1, hi => simp at hi
  refine wpList_append_sl (f := f) _ hgd s x t ho base e i z size bytes ht hi hz hsize hby hzs hsz hf h1 v n xs hs (hown.alloc _) _ 1 1 [y] hx hsl h63 hbytes (by simp; omega) ?_
  intro B d w' h2 h3 _
  exact h B d w' h2 (grown_trans (World.grownBy_alloc w _ _) h3)
/-- One element of a list is replaced, in one cell. -/
theorem flat_set (f : α → List Value) (k : Nat) (hf : ∀ x, (f x).length = k) (l : List α) (i : Nat) (x x' : α) (hi : l[i]? = some x) (j : Nat) (hj : j < k) (u : Value) (hx : f x' = (f x).set j u) :
    (l.flatMap f).set (i * k + j) u = (l.set i x').flatMap f := by
  induction l generalizing i with
  | nil => simp at hi
  | cons y l ih =>
    cases i with
    | zero =>
      simp at hi
      subst hi
      rw [Nat.zero_mul, Nat.zero_add, List.flatMap_cons, List.set_cons_zero, List.flatMap_cons, hx, List.set_append_left _ _ (by rw [hf]; exact hj)]
    | succ i =>
      have e : (i + 1) * k + j = (f y).length + (i * k + j) := by rw [hf, Nat.succ_mul]; omega
      rw [List.flatMap_cons, List.set_cons_succ, List.flatMap_cons, e, List.set_append_right _ _ (by omega), Nat.add_sub_cancel_left, ih i (by simpa using hi)]
/-- The cells that 'mark' writes are a list's. -/
theorem marks_list (f : α → List Value) (k : Nat) (hf : ∀ x, (f x).length = k) (g : Int → α) (hg : ∀ q j, j < k → (f (g q))[j]? = some (.int .i64 (q + (j : Nat)))) (q : Int) (n : Nat) :
    ∃ l : List α, l.length = n ∧ l.flatMap f = marks q (n * k) := by
  refine ⟨(List.range n).map fun i => g (q + (i * k : Nat)), by simp, ?_⟩
  have hl : ((List.range n).map fun i => g (q + (i * k : Nat))).length = n := by simp
  apply List.ext_getElem?
  intro j
  by_cases hj : j < n * k
  · have hk : 0 < k := by
      rcases Nat.eq_zero_or_pos k with h | h
      · subst h; omega
      · exact h
    have hd : j / k < n := (Nat.div_lt_iff_lt_mul hk).2 hj
    have hm : j % k < k := Nat.mod_lt _ hk
    have e : j = j / k * k + j % k := by have := Nat.div_add_mod j k; rw [Nat.mul_comm] at this; omega
    rw [marks_get q (n * k) j hj, e, flat_get f k hf _ (j / k) (g (q + (j / k * k : Nat))) (by simp [hd]) (j % k) hm, hg _ _ hm]
    congr 2
    omega
  · rw [List.getElem?_eq_none (by rw [flat_len f k hf, hl]; omega), List.getElem?_eq_none (by rw [marks_len]; omega)]
end
theorem ci_one (x : Int) : ∀ u ∈ ci x, u.oneCell' = true := by intro u hu; simp [ci] at hu; subst hu; rfl
/-- A result of a list that a row of the call's own holds. -/
theorem NewRes.of_own {α : Type} {f : α → List Value} {k E : Nat} {R : List α} {F : Value → Value} {w w' : World} {B : Option Addr} {m c : Nat} (ho : w'.ownsRow w.heap.size E k (.slice B m c) m (R.flatMap f)) (hl : R.length = m) (hm : m ≤ 1048576) (hb : Bl w w') :
    NewRes f k E R F w (.returned (F (.slice B m c))) w' := ⟨B, m, c, rfl, ho, hl, hm, hb⟩
theorem NewRes.nil {α : Type} {f : α → List Value} {k E : Nat} {F : Value → Value} {w w' : World} (hb : Bl w w') : NewRes f k E [] F w (.returned (F (.slice none 0 0))) w' :=
  ⟨none, 0, 0, rfl, World.ownsRow_nil _ _ _ _, rfl, by omega, hb⟩
theorem NewRes.empty {α : Type} {f : α → List Value} {k E : Nat} {F : Value → Value} {w w' : World} (hb : Bl w w') : NewRes f k E [] F w (.returned (F (.slice (some ⟨w'.heap.size, 0, none⟩) 0 0))) (w'.alloc (.cells #[] E)) :=
  ⟨_, 0, 0, rfl, World.ownsRow_made w' #[] 0 hb.le (Nat.zero_le _) (by simp), rfl, by omega, hb.alloc _⟩
theorem NewRes.own {α : Type} {f : α → List Value} {k E : Nat} {R : List α} {F : Value → Value} {w w0 w' : World} {B : Option Addr} {m c : Nat} (ho : w'.ownsRow w0.heap.size E k (.slice B m c) m (R.flatMap f)) (h0 : Bl w w0) (hl : R.length = m) (hm : m ≤ 1048576) (hb : Bl w w') :
    NewRes f k E R F w (.returned (F (.slice B m c))) w' := ⟨B, m, c, rfl, own_mono ho h0.le, hl, hm, hb⟩
theorem Bl.grownBy {w w' : World} (h : Bl w w') (row : Option Nat) : w.grownBy w' row := ⟨h.os, h.tape, h.output, h.size, fun k hk _ => h.block k hk⟩
theorem Bl.row {a w w' : World} {B E k n : Nat} {v : Value} {xs : List Value} (h : Bl a w) (hB : a.heap.size ≤ B) (ho : w.ownsRow B E k v n xs) (hg : w.grownBy w' v.ownBlock) : Bl a w' :=
  h.grown hg fun k hk => Nat.le_trans hB ((own_lt ho).out k hk).1
theorem grown_drew {w w' : World} {row : Option Nat} (h : w.grownBy w' row) : w.grownBy w'.drew row := ⟨h.os, h.tape, h.output, h.size, h.block⟩
end Go.Proofs.Ytkeaobjcfkmjmaa
