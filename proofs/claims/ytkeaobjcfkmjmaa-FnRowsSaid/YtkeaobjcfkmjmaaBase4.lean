/- 'append' at one step of a statement that leaves its order open. -/
import Derived.Test.YtkeaobjcfkmjmaaBase3
namespace Go.Proofs.Ytkeaobjcfkmjmaa
open Go.RowKit
section
variable {P : Program} {α : Type} {f : α → List Value}
theorem wp_append_sl (w : World) {o : Oper} {a : Act} {K : Act → World → Prop} {Q : Exit → Act → World → Prop} (s x : Operand) (t : TypeId)
    (ho : o.op = .call { callee := .builtin .append, args := #[s, x], argTypes := #[t, t] })
    (base : Nat) (e : TypeId) (i : TypeInfo) (z : Value) (size bytes : Nat) (ht : P.underlying t = some (.slice e)) (hi : P.info? e = some i) (hz : i.zero = some z)
    (hsize : i.size = size) (hby : i.bytes = bytes) (hzs : z.cells.size = size) (hsz : 0 < size)
    (hf : ∀ x, (f x).length = size) (h1 : ∀ x, ∀ u ∈ f x, u.oneCell' = true)
    (v : Value) (n : Nat) (xs : List α) (hs : a.eval s = v) (hown : w.ownsRow base e size v n (xs.flatMap f))
    (A : Option Addr) (m c : Nat) (ys : List α) (hx : a.eval x = .slice A m c) (hr : Sl f size w A m ys)
    (h63 : n + m ≤ maxLen) (hbytes : (n + m) * bytes ≤ 140737488355328) (hbase : base ≤ w.heap.size)
    (h : ∀ B d w', w'.ownsRow base e size (.slice B (n + m) d) (n + m) ((xs ++ ys).flatMap f) → w.grownBy w' v.ownBlock → ((Value.slice B (n + m) d).ownBlock = v.ownBlock ∨ (Value.slice B (n + m) d).ownBlock = some w.heap.size) → K (a.put o.dst (.slice B (n + m) d)) w') : o.wp P a w K Q := by
  rcases Nat.eq_zero_or_pos m with h0 | h0
  · subst h0
    have hy : ys = [] := List.eq_nil_of_length_eq_zero hr.1
    subst hy
    have hc0 : ∃ d, v = .slice (match v with | .slice B _ _ => B | _ => none) n d ∧ n ≤ d := by
      rcases hown.2 with ⟨rfl, rfl⟩ | ⟨g, cap, cur, rfl, _, _, hnc, _⟩
      · exact ⟨0, rfl, Nat.le_refl _⟩
      · exact ⟨cap, rfl, hnc⟩
    obtain ⟨d, hv, hnd⟩ := hc0
    have hrun : (Builtin.append_ #[t, t] o.type #[v, .slice A 0 c]).run P w = .ok v w := by
      rcases hown.2 with ⟨rfl, rfl⟩ | ⟨g, cap, cur, rfl, _, _, hnc, _⟩
      · cases A <;> simp [Builtin.append_, run_underlying ht, sizeOf, typeInfo, hi, Builtin.lenOf, Builtin.firstCells, loadCells, loadCellsFrom]
      · cases A <;> simp [Builtin.append_, run_underlying ht, sizeOf, typeInfo, hi, Builtin.lenOf, Builtin.firstCells, loadCells, loadCellsFrom, hnc, storeCells]
    unfold Oper.wp execOp
    simp only [ho, resolve, invoke, builtin, Sem.run_bind, Sem.run_pure, Result.andThen_ok, List.map_toArray, List.map_cons, List.map_nil, hs, hx, hrun]
    have hh := h _ d w (by rw [Nat.add_zero, ← hv]; simpa using hown) (World.grownBy.refl w _) (.inl (by rw [Nat.add_zero, ← hv]))
    rw [Nat.add_zero, ← hv] at hh
    exact hh
  · obtain ⟨ad, rfl, hcells⟩ := hr.cells hf hsz h0
    obtain ⟨v', w', hrun, h2, h3, _, h5⟩ := run_append_own_at (P := P) w base t o.type e i z size bytes ht hi hz hsize hby hzs hsz v n _ hown ad m c (ys.flatMap f) (by rw [flat_len f size hf, hr.1]) hcells (flat_one f h1 ys) h63 hbytes hbase
    have hc0 : ∃ B d, v' = .slice B (n + m) d := by
      rcases h2.2 with ⟨rfl, e⟩ | ⟨g, cap, cur, rfl, _⟩
      · exact ⟨none, 0, by rw [e]⟩
      · exact ⟨_, _, rfl⟩
    obtain ⟨B, d, rfl⟩ := hc0
    unfold Oper.wp execOp
    simp only [ho, resolve, invoke, builtin, Sem.run_bind, Sem.run_pure, Result.andThen_ok, List.map_toArray, List.map_cons, List.map_nil, hs, hx, hrun]
    exact h _ _ w' (by rw [List.flatMap_append]; exact h2) h3 h5
/-- The same at a step of such a statement: own row, source and bounds are shown behind it. -/
theorem step_append_sl (w : World) {ops : Array Oper} {o : Oper} {a : Act} {K : Act → World → Prop} {Q : Exit → Act → World → Prop} {E : Prop} (hgd : o.guard = none) (s x : Operand) (t : TypeId)
    (ho : o.op = .call { callee := .builtin .append, args := #[s, x], argTypes := #[t, t] })
    (base : Nat) (e : TypeId) (i : TypeInfo) (z : Value) (size bytes : Nat) (ht : P.underlying t = some (.slice e)) (hi : P.info? e = some i) (hz : i.zero = some z)
    (hsize : i.size = size) (hby : i.bytes = bytes) (hzs : z.cells.size = size) (hsz : 0 < size)
    (hf : ∀ x, (f x).length = size) (h1 : ∀ x, ∀ u ∈ f x, u.oneCell' = true)
    (v : Value) (n : Nat) (xs : List α) (hs : a.eval s = v) (A : Option Addr) (m c : Nat) (ys : List α) (hx : a.eval x = .slice A m c)
    (hpre : (w.ownsRow base e size v n (xs.flatMap f) ∧ Sl f size w A m ys) ∧ n + m ≤ maxLen ∧ (n + m) * bytes ≤ 140737488355328 ∧ base ≤ w.heap.size)
    (h : ∀ B d w', w'.ownsRow base e size (.slice B (n + m) d) (n + m) ((xs ++ ys).flatMap f) → w.grownBy w' v.ownBlock → ((Value.slice B (n + m) d).ownBlock = v.ownBlock ∨ (Value.slice B (n + m) d).ownBlock = some w.heap.size) → K (a.put o.dst (.slice B (n + m) d)) w') :
    if Region.wanted o (yielded ops a.tmps) = true then Oper.wp P o a w K Q else E := by
  have hw : Region.wanted o (yielded ops a.tmps) = true := by simp [Region.wanted, hgd]
  rw [if_pos hw]
  exact wp_append_sl w s x t ho base e i z size bytes ht hi hz hsize hby hzs hsz hf h1 v n xs hs hpre.1.1 A m c ys hx hpre.1.2 hpre.2.1 hpre.2.2.1 hpre.2.2.2 h
end
/-- The same with the row, the source and the new length as letters. -/
theorem step_append_at {P : Program} {α : Type} {f : α → List Value} {w : World} {ops : Array Oper} {o : Oper} {a : Act} {K : Act → World → Prop} {Q : Exit → Act → World → Prop} {E : Prop} (hgd : o.guard = none) (s x : Operand) (t : TypeId)
    (ho : o.op = .call { callee := .builtin .append, args := #[s, x], argTypes := #[t, t] })
    (base : Nat) (e : TypeId) (i : TypeInfo) (z : Value) (size bytes : Nat) (ht : P.underlying t = some (.slice e)) (hi : P.info? e = some i) (hz : i.zero = some z)
    (hsize : i.size = size) (hby : i.bytes = bytes) (hzs : z.cells.size = size) (hsz : 0 < size)
    (hf : ∀ x, (f x).length = size) (h1 : ∀ x, ∀ u ∈ f x, u.oneCell' = true)
    (v : Value) (n : Nat) (xs : List α) (hown : w.ownsRow base e size v n (xs.flatMap f)) (A : Option Addr) (m c : Nat) (ys : List α) (hr : Sl f size w A m ys)
    (hs : a.eval s = v) (hx : a.eval x = .slice A m c)
    (h63 : n + m ≤ maxLen) (hbytes : (n + m) * bytes ≤ 140737488355328) (hbase : base ≤ w.heap.size)
    (h : ∀ B d N w', N = n + m → w'.ownsRow base e size (.slice B N d) N ((xs ++ ys).flatMap f) → w.grownBy w' v.ownBlock → ((Value.slice B N d).ownBlock = v.ownBlock ∨ (Value.slice B N d).ownBlock = some w.heap.size) → K (a.put o.dst (.slice B N d)) w') :
    if Region.wanted o (yielded ops a.tmps) = true then Oper.wp P o a w K Q else E :=
  step_append_sl w hgd s x t ho base e i z size bytes ht hi hz hsize hby hzs hsz hf h1 v n xs hs A m c ys hx ⟨⟨hown, hr⟩, h63, hbytes, hbase⟩ fun B d w' => h B d (n + m) w' rfl
theorem slOne (w : World) (e : TypeId) (x : Int) (H : Nat) (hH : w.heap.size = H) : Sl ci 1 (w.alloc (.cells #[.int .i64 x] e)) (some ⟨H, 0, none⟩) 1 [x] := by
  subst hH
  refine ⟨rfl, by decide, fun _ => ⟨_, 0, rfl, fun i y hi j u hu => ?_⟩⟩
  match i, hi with
  | 0, hi =>
    have := Option.some.inj hi
    subst this
    rw [Nat.zero_mul, Nat.zero_add, cell_of_row _ _ j _ e (0, 0) (heap_alloc_new w _)]
    simpa [ci] using hu
  | i + 1, hi => simp at hi
theorem Sl.grown {α : Type} {f : α → List Value} {k n : Nat} {w w' : World} {A : Option Addr} {l : List α} {row : Option Nat} (h : Sl f k w A n l) (hg : w.grownBy w' row) (hr : ∀ b o s, A = some ⟨b, o, s⟩ → some b ≠ row) : Sl f k w' A n l :=
  ⟨h.1, h.2.1, fun hn => let ⟨b, o, e, hc⟩ := h.2.2 hn; ⟨b, o, e, fun i x hi j u hu => hg.cell (hc i x hi j u hu) (hr b o none e)⟩⟩
theorem made_at {α : Type} (f : α → List Value) (k : Nat) (w : World) (e B H : Nat) (hH : w.heap.size = H) (hB : B ≤ H) : (w.alloc (.cells #[] e)).ownsRow B e k (.slice (some ⟨H, 0, none⟩) 0 0) 0 (([] : List α).flatMap f) := by
  subst hH
  exact World.ownsRow_made w #[] 0 hB (Nat.zero_le _) (by simp)
/-- The elements from k on of a slice. -/
theorem Sl.drop_ {α : Type} {f : α → List Value} {s n c : Nat} {w : World} {A : Option Addr} {l : List α} (h : Sl f s w A n l) {k : Nat} (hk : k ≤ n) (hc : n ≤ c) : Sl f s w (if c = k then A else A.map fun a => a.add (k * s)) (n - k) (l.drop k) := by
  refine ⟨by rw [List.length_drop, h.1], by have := h.2.1; omega, fun h0 => ?_⟩
  obtain ⟨b, o, rfl, hcell⟩ := h.2.2 (by omega)
  rw [if_neg (by omega)]
  refine ⟨b, o + k * s, ?_, fun i x hi j u hu => ?_⟩
  · simp only [Option.map_some, Addr.add_lit]
  · rw [List.getElem?_drop] at hi
    have := hcell (k + i) x hi j u hu
    rw [Nat.add_mul, ← Nat.add_assoc] at this
    exact this
end Go.Proofs.Ytkeaobjcfkmjmaa
