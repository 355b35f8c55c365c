/- Rows with one element that have just been laid. No program in sight. -/
import Derived.Test.YtkeaobjcfkmjmaaBase4
import Derived.Deep.RegionHeld3
namespace Go.Proofs.Ytkeaobjcfkmjmaa
open Go.RowKit
theorem slOneG {α : Type} (f : α → List Value) (k : Nat) (hf : ∀ x, (f x).length = k) (w : World) (e : TypeId) (y : α) (cs : Array Value) (hcs : cs = (f y).toArray) (H : Nat) (hH : w.heap.size = H) : Sl f k (w.alloc (.cells cs e)) (some ⟨H, 0, none⟩) 1 [y] := by
  subst hH hcs
  refine ⟨rfl, by decide, fun _ => ⟨_, 0, rfl, fun i x hi j u hu => ?_⟩⟩
  match i, hi with
  | 0, hi =>
    have := Option.some.inj hi
    subst this
    rw [Nat.zero_mul, Nat.zero_add, cell_of_row _ _ j _ e (0, 0) (heap_alloc_new w _)]
    simpa using hu
  | i + 1, hi => simp at hi
/-- 'append(out, x)': one element more; and where the new row lies. -/
theorem wpList_append_one_l {P : Program} {α : Type} {f : α → List Value} (w : World) {ops : Array Oper} {rest : List Oper} {o : Oper} {a : Act} {Q : Exit → Act → World → Prop} (hgd : o.guard = none) (s x : Operand) (t : TypeId)
    (ho : o.op = .call { callee := .builtin .append, args := #[s, x], argTypes := #[t, t] })
    (base : Nat) (e : TypeId) (i : TypeInfo) (z : Value) (size bytes : Nat) (ht : P.underlying t = some (.slice e)) (hi : P.info? e = some i) (hz : i.zero = some z)
    (hsize : i.size = size) (hby : i.bytes = bytes) (hzs : z.cells.size = size) (hsz : 0 < size)
    (hf : ∀ x, (f x).length = size) (h1 : ∀ x, ∀ u ∈ f x, u.oneCell' = true)
    (v : Value) (n : Nat) (xs : List α) (hs : a.eval s = v) (y : α) (H : Nat) (hx : a.eval x = .slice (some ⟨H, 0, none⟩) 1 1) (hH : w.heap.size = H) (W : World) (hW : W = w.alloc (.cells (f y).toArray e))
    (hown : w.ownsRow base e size v n (xs.flatMap f)) (hbase : base ≤ w.heap.size) (h63 : n + 1 ≤ maxLen) (hbytes : (n + 1) * bytes ≤ 140737488355328)
    (h : ∀ B d w', w'.ownsRow base e size (.slice B (n + 1) d) (n + 1) ((xs ++ [y]).flatMap f) → w.grownBy w' v.ownBlock → ((Value.slice B (n + 1) d).ownBlock = v.ownBlock ∨ (Value.slice B (n + 1) d).ownBlock = some (w.heap.size + 1)) → wpList P ops Q rest (a.put o.dst (.slice B (n + 1) d)) w') : wpList P ops Q (o :: rest) a W := by
  subst hW
  subst hH
  refine wpList_append_sl (f := f) _ hgd s x t ho base e i z size bytes ht hi hz hsize hby hzs hsz hf h1 v n xs hs (hown.alloc _) _ 1 1 [y] hx (slOneG f size hf w e y _ rfl _ rfl) h63 hbytes (by simp; omega) ?_
  intro B d w' h2 h3 h4
  exact h B d w' h2 (grown_trans (World.grownBy_alloc w _ _) h3) (by simpa using h4)
end Go.Proofs.Ytkeaobjcfkmjmaa
