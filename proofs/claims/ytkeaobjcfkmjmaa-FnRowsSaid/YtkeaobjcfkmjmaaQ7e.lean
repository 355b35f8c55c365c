/- Plain laws on the shortest row: visiting all sequences finds what continuing them finds. No program in sight. -/
import Derived.Test.YtkeaobjcfkmjmaaQ7d
import Derived.Test.YtkeaobjcfkmjmaaQs
namespace Go.Proofs.Ytkeaobjcfkmjmaa
open Go.RowKit
/-- The better of what is known and what has been found; a negative number says that there is none. -/
def mrg {α : Type} (s r : List α × Int) : List α × Int := if 0 ≤ r.2 ∧ (s.2 < 0 ∨ r.2 < s.2) then r else s
section
variable {α : Type} {s r a b : List α × Int}
theorem mrg_yes (h0 : 0 ≤ r.2) (h : s.2 < 0 ∨ r.2 < s.2) : mrg s r = r := if_pos ⟨h0, h⟩
theorem mrg_no (h : ¬ (s.2 < 0 ∨ r.2 < s.2)) : mrg s r = s := if_neg (fun e => h e.2)
theorem mrg_neg (h : r.2 < 0) : mrg s r = s := if_neg (fun e => by omega)
theorem mrg_assoc (s a b : List α × Int) : mrg (mrg s a) b = mrg s (mrg a b) := by
  by_cases ha : 0 ≤ a.2
  · by_cases hb : 0 ≤ b.2
    · by_cases h1 : b.2 < a.2
      · rw [mrg_yes (s := a) hb (.inr h1)]
        by_cases h2 : s.2 < 0 ∨ a.2 < s.2
        · rw [mrg_yes ha h2, mrg_yes hb (.inr h1), mrg_yes hb (by omega)]
        · rw [mrg_no h2]
      · rw [mrg_no (s := a) (r := b) (by omega)]
        by_cases h2 : s.2 < 0 ∨ a.2 < s.2
        · rw [mrg_yes ha h2, mrg_no (by omega)]
        · rw [mrg_no h2, mrg_no (by omega)]
    · rw [mrg_neg (r := b) (by omega), mrg_neg (r := b) (by omega)]
  · rw [mrg_neg (s := s) (r := a) (by omega)]
    by_cases hb : 0 ≤ b.2
    · rw [mrg_yes (s := a) hb (by omega)]
    · rw [mrg_neg (s := a) (r := b) (by omega), mrg_neg (r := b) (by omega), mrg_neg (r := a) (by omega)]
theorem mrg_pos (h : 0 ≤ s.2 ∨ 0 ≤ r.2) : 0 ≤ (mrg s r).2 := by
  unfold mrg
  split <;> omega
theorem mrg_start (h : 0 ≤ r.2) : mrg ([], -1) r = r := mrg_yes h (.inl (by simp))
theorem mrg_le (h : 0 ≤ r.2) : (mrg s r).2 ≤ r.2 := by
  unfold mrg
  split <;> omega
theorem mrg_le1 (h : 0 ≤ s.2) : (mrg s r).2 ≤ s.2 := by
  unfold mrg
  split <;> omega
theorem mrg_or (s r : List α × Int) : mrg s r = r ∨ mrg s r = s := by
  unfold mrg
  split
  · exact .inl rfl
  · exact .inr rfl
theorem fold_mrg {β : Type} (r : β → List α × Int) : ∀ (L : List β) (s : List α × Int), L.foldl (fun t x => mrg t (r x)) s = mrg s (L.foldl (fun t x => mrg t (r x)) ([], -1)) := by
  intro L
  induction L with
  | nil => intro s; exact (mrg_neg (by simp)).symm
  | cons x L ih =>
    intro s
    rw [List.foldl_cons, List.foldl_cons, ih, ih (mrg ([], -1) (r x)), ← mrg_assoc, ← mrg_assoc, mrg_neg (s := s) (r := (([], -1) : List α × Int)) (by simp)]
theorem fold_pos {β : Type} (r : β → List α × Int) : ∀ (L : List β) (s : List α × Int), (∀ x ∈ L, 0 ≤ (r x).2) → (0 ≤ s.2 ∨ L ≠ []) → 0 ≤ (L.foldl (fun t x => mrg t (r x)) s).2 := by
  intro L
  induction L with
  | nil => intro s _ h; rcases h with h | h; exact h; exact absurd rfl h
  | cons x L ih =>
    intro s hr h
    rw [List.foldl_cons]
    exact ih _ (fun y hy => hr y (by simp [hy])) (.inl (mrg_pos (.inr (hr x (by simp)))))
theorem fold_or {β : Type} (r : β → List α × Int) (Q : List α × Int → Prop) : ∀ (L : List β) (s : List α × Int), (∀ x ∈ L, Q (r x)) → Q (L.foldl (fun t x => mrg t (r x)) s) ∨ L.foldl (fun t x => mrg t (r x)) s = s := by
  intro L
  induction L with
  | nil => intro s _; exact .inr rfl
  | cons x L ih =>
    intro s hr
    rw [List.foldl_cons]
    rcases ih (mrg s (r x)) (fun y hy => hr y (by simp [hy])) with h | h
    · exact .inl h
    · rw [h]
      rcases mrg_or s (r x) with h2 | h2
      · rw [h2]; exact .inl (hr x (by simp))
      · exact .inr h2
theorem fold_le {β : Type} (r : β → List α × Int) : ∀ (L : List β) (s : List α × Int), (∀ x ∈ L, 0 ≤ (r x).2) → (0 ≤ s.2 → (L.foldl (fun t x => mrg t (r x)) s).2 ≤ s.2) ∧ ∀ y ∈ L, (L.foldl (fun t x => mrg t (r x)) s).2 ≤ (r y).2 := by
  intro L
  induction L with
  | nil => intro s _; exact ⟨fun _ => Int.le_refl _, fun y hy => by simp at hy⟩
  | cons x L ih =>
    intro s hr
    have hx := hr x (by simp)
    obtain ⟨h1, h2⟩ := ih (mrg s (r x)) (fun y hy => hr y (by simp [hy]))
    have h3 := h1 (mrg_pos (.inr hx))
    rw [List.foldl_cons]
    refine ⟨fun hs => Int.le_trans h3 (mrg_le1 hs), fun y hy => ?_⟩
    rcases List.mem_cons.1 hy with rfl | hy
    · exact Int.le_trans h3 (mrg_le hx)
    · exact h2 y hy
end
/-! ### lists of cargos, whatever their order -/
theorem fine_all {l : List Cargo} : fineUp l l.length = true ↔ (∀ c ∈ l, vcargo c = true) ∧ (l.map (·.Id)).Nodup := by
  have key : ∀ k, k ≤ l.length → (fineUp l k = true ↔ (∀ c ∈ l.take k, vcargo c = true) ∧ ((l.take k).map (·.Id)).Nodup) := by
    intro k
    induction k with
    | zero => intro _; simp [fineUp]
    | succ k ih =>
      intro hk
      have hx : l[k]? = some (l[k]'(by omega)) := List.getElem?_eq_getElem (by omega)
      generalize l[k]'(by omega) = x at hx
      rw [fineUp_one hx, Bool.and_eq_true, ih (by omega), take_one hx]
      simp only [fineAt, Bool.and_eq_true, Bool.not_eq_true', List.any_eq_false, sameId, List.map_append, List.map_cons, List.map_nil, List.nodup_append, List.mem_append, List.mem_singleton]
      constructor
      · rintro ⟨⟨h1, h2⟩, h3, h4⟩
        refine ⟨fun c hc => ?_, h2, by simp, ?_⟩
        · rcases hc with hc | rfl
          · exact h1 c hc
          · exact h3
        · intro a ha b hb e
          obtain ⟨c, hc, rfl⟩ := List.mem_map.1 ha
          subst hb
          exact h4 c hc (by simpa using e)
      · rintro ⟨h1, h2, _, h4⟩
        refine ⟨⟨fun c hc => h1 c (.inl hc), h2⟩, h1 x (.inr rfl), fun c hc => ?_⟩
        have := h4 c.Id (List.mem_map.2 ⟨c, hc, rfl⟩) x.Id rfl
        simpa using this
  have := key l.length (Nat.le_refl _)
  rwa [List.take_length] at this
theorem cargo_iff {l : List Cargo} : cargoOk l = true ↔ l.length ≤ 6 ∧ (∀ c ∈ l, vcargo c = true) ∧ (l.map (·.Id)).Nodup := by
  rw [cargoOk, Bool.and_eq_true, decide_eq_true_eq, fine_all]
theorem cargo_sub {l row rest : List Cargo} (h : cargoOk l = true) (hp : (row ++ rest).Perm l) : cargoOk row = true := by
  rw [cargo_iff] at *
  have hlen := hp.length_eq
  rw [List.length_append] at hlen
  refine ⟨by omega, fun c hc => h.2.1 c (hp.mem_iff.1 (List.mem_append_left _ hc)), ?_⟩
  have hn := (hp.map (·.Id)).nodup_iff.2 h.2.2
  rw [List.map_append] at hn
  exact (List.nodup_append.1 hn).1
theorem cargo_nodup {l : List Cargo} (h : cargoOk l = true) : l.Nodup := by
  have := (cargo_iff.1 h).2.2
  rw [List.nodup_iff_pairwise_ne, List.pairwise_map] at this
  rw [List.nodup_iff_pairwise_ne]
  exact this.imp fun h e => h (by rw [e])
def extOf (row : List Cargo) : Int := (placeS row row.length).2
theorem pk_all {l : List Cargo} (hl : cargoOk l = true) : ∀ k, k ≤ l.length → Pk k (placeS l k) := by
  intro k
  induction k with
  | zero => intro _; exact pk_zero l
  | succ k ih =>
    intro hk
    exact pk_step hl (List.getElem?_eq_getElem (by omega)) (ih (by omega))
/-- The best order that continues a row with the rest: the reference. -/
def contC : Nat → List Cargo → List Cargo → List Cargo × Int
  | 0, row, _ => (row, extOf row)
  | f + 1, row, rest => rest.foldl (fun s x => mrg s (contC f (row ++ [x]) (rest.erase x))) ([], -1)
/-- What the program holds behind all sequences that begin with a row. -/
def visC (S : List Cargo) : Nat → List Cargo → List Cargo × Int → List Cargo × Int
  | 0, row, s => mrg s (row, extOf row)
  | f + 1, row, s => S.foldl (fun t x => if x ∈ row then t else visC S f (row ++ [x]) t) s
theorem part_step {l row rest : List Cargo} {x : Cargo} (hp : (row ++ rest).Perm l) (hx : x ∈ rest) : ((row ++ [x]) ++ rest.erase x).Perm l := by
  refine List.Perm.trans ?_ hp
  rw [List.append_assoc]
  exact List.Perm.append_left row (List.perm_cons_erase hx).symm
theorem ext_pos {l : List Cargo} (h : cargoOk l = true) : 0 ≤ extOf l ∧ extOf l ≤ 200 := by
  have := pk_all h l.length (Nat.le_refl _)
  have h6 := cargo_len h
  have h1 := this.e0
  have h2 := this.e1
  unfold extOf
  omega
theorem contC_pos {l : List Cargo} (hl : cargoOk l = true) : ∀ f (row rest : List Cargo), (row ++ rest).Perm l → rest.length = f → 0 ≤ (contC f row rest).2 ∧ (contC f row rest).2 ≤ 200 := by
  intro f
  induction f with
  | zero =>
    intro row rest hp hf
    exact ext_pos (cargo_sub hl hp)
  | succ f ih =>
    intro row rest hp hf
    have hr : ∀ x ∈ rest, 0 ≤ (contC f (row ++ [x]) (rest.erase x)).2 ∧ (contC f (row ++ [x]) (rest.erase x)).2 ≤ 200 := fun x hx => ih _ _ (part_step hp hx) (by rw [List.length_erase_of_mem hx]; omega)
    have hne : rest ≠ [] := by rintro rfl; simp at hf
    rw [contC]
    refine ⟨fold_pos _ _ _ (fun x hx => (hr x hx).1) (.inr hne), ?_⟩
    obtain ⟨x, hx⟩ := List.exists_mem_of_ne_nil _ hne
    exact Int.le_trans ((fold_le (fun x => contC f (row ++ [x]) (rest.erase x)) rest ([], -1) (fun x hx => (hr x hx).1)).2 x hx) (hr x hx).2
theorem contC_perm {l : List Cargo} (hl : cargoOk l = true) : ∀ f (row rest : List Cargo), (row ++ rest).Perm l → rest.length = f → (contC f row rest).1.Perm l ∧ (contC f row rest).2 = extOf (contC f row rest).1 := by
  intro f
  induction f with
  | zero =>
    intro row rest hp hf
    have : rest = [] := List.eq_nil_of_length_eq_zero hf
    subst this
    rw [List.append_nil] at hp
    exact ⟨hp, rfl⟩
  | succ f ih =>
    intro row rest hp hf
    have hpos := contC_pos hl (f + 1) row rest hp hf
    rw [contC] at hpos ⊢
    rcases fold_or (fun x => contC f (row ++ [x]) (rest.erase x)) (fun r => r.1.Perm l ∧ r.2 = extOf r.1) rest ([], -1) (fun x hx => ih _ _ (part_step hp hx) (by rw [List.length_erase_of_mem hx]; omega)) with h | h
    · exact h
    · rw [h] at hpos
      simp at hpos
theorem contC_best {l : List Cargo} (hl : cargoOk l = true) : ∀ f (row rest : List Cargo), (row ++ rest).Perm l → rest.length = f → ∀ q : List Cargo, q.Perm l → q.take row.length = row → (contC f row rest).2 ≤ extOf q := by
  intro f
  induction f with
  | zero =>
    intro row rest hp hf q hq he
    have : rest = [] := List.eq_nil_of_length_eq_zero hf
    subst this
    rw [List.append_nil] at hp
    rw [List.take_of_length_le (by rw [hq.length_eq, hp.length_eq]; exact Nat.le_refl _)] at he
    rw [he]
    exact Int.le_refl _
  | succ f ih =>
    intro row rest hp hf q hq he
    have hlen : q.length = row.length + rest.length := by rw [hq.length_eq, ← hp.length_eq, List.length_append]
    have hlt : row.length < q.length := by omega
    have hx : q[row.length]? = some (q[row.length]'hlt) := List.getElem?_eq_getElem hlt
    generalize q[row.length]'hlt = x at hx
    have hxt := take_one hx
    rw [he] at hxt
    have hnd : (row ++ [x]).Nodup := by
      have := (hq.nodup_iff.2 (cargo_nodup hl))
      rw [← hxt]
      exact this.sublist (List.take_sublist _ _)
    have hxr : x ∈ rest := by
      have h1 : x ∈ row ++ rest := hp.mem_iff.2 (hq.mem_iff.1 (List.mem_of_getElem? hx))
      rcases List.mem_append.1 h1 with h2 | h2
      · exact absurd rfl ((List.nodup_append.1 hnd).2.2 x h2 x (by simp))
      · exact h2
    have hr : ∀ x ∈ rest, 0 ≤ (contC f (row ++ [x]) (rest.erase x)).2 := fun x hx => (contC_pos hl f _ _ (part_step hp hx) (by rw [List.length_erase_of_mem hx]; omega)).1
    have h1 := ih (row ++ [x]) (rest.erase x) (part_step hp hxr) (by rw [List.length_erase_of_mem hxr]; omega) q hq (by rw [List.length_append, List.length_singleton, hxt])
    rw [contC]
    exact Int.le_trans ((fold_le (fun x => contC f (row ++ [x]) (rest.erase x)) rest ([], -1) hr).2 x hxr) h1
theorem fold_congr {α β : Type} {f g : α → β → α} : ∀ (L : List β) (s : α), (∀ x ∈ L, ∀ t, f t x = g t x) → L.foldl f s = L.foldl g s := by
  intro L
  induction L with
  | nil => intro s _; rfl
  | cons x L ih =>
    intro s h
    rw [List.foldl_cons, List.foldl_cons, h x (by simp)]
    exact ih _ (fun y hy => h y (by simp [hy]))
/-- The rest, in ascending order. -/
def restOf (S row : List Cargo) : List Cargo := S.filter (fun y => decide (y ∉ row))
theorem rest_step {S row : List Cargo} (hS : S.Nodup) (x : Cargo) : (restOf S row).erase x = restOf S (row ++ [x]) := by
  have hn : (restOf S row).Nodup := hS.sublist List.filter_sublist
  rw [hn.erase_eq_filter, restOf, restOf, List.filter_filter]
  refine List.filter_congr fun y _ => ?_
  by_cases h1 : y = x <;> by_cases h2 : y ∈ row <;> simp [h1, h2]
theorem visC_cont {l S : List Cargo} (hl : cargoOk l = true) (hS : S.Perm l) : ∀ f (row : List Cargo) s, (row ++ restOf S row).Perm l → (restOf S row).length = f → visC S f row s = mrg s (contC f row (restOf S row)) := by
  have hnd : S.Nodup := hS.nodup_iff.2 (cargo_nodup hl)
  intro f
  induction f with
  | zero => intro row s hp hf; rfl
  | succ f ih =>
    intro row s hp hf
    rw [visC, contC, ← fold_mrg]
    have e : S.foldl (fun t x => if x ∈ row then t else visC S f (row ++ [x]) t) s = (restOf S row).foldl (fun t x => visC S f (row ++ [x]) t) s := by
      rw [restOf, List.foldl_filter]
      refine fold_congr _ _ fun x _ t => ?_
      by_cases h : x ∈ row <;> simp [h]
    rw [e]
    refine fold_congr _ _ fun x hx t => ?_
    have hp' := part_step hp hx
    rw [rest_step hnd] at hp' ⊢
    refine ih _ _ hp' ?_
    rw [← rest_step hnd, List.length_erase_of_mem hx]
    omega
theorem rest_nil (S : List Cargo) : restOf S [] = S := by simp [restOf]
theorem visC_all {l S : List Cargo} (hl : cargoOk l = true) (hS : S.Perm l) : visC S S.length [] ([], -1) = contC S.length [] S := by
  have h := visC_cont hl hS S.length [] ([], -1) (by rw [rest_nil]; exact hS) (by rw [rest_nil])
  rw [rest_nil] at h
  rw [h, mrg_start (contC_pos hl _ [] S hS rfl).1]
/-! ### the ascending order -/
def idLt (x y : Cargo) : Bool := decide (x.Id < y.Id)
theorem insG_perm {α : Type} (r : α → α → Bool) (o : List α) (x : α) : (insG r o x).Perm (o ++ [x]) := by
  unfold insG
  refine List.Perm.trans List.perm_middle ?_
  rw [List.take_append_drop]
  exact (List.perm_append_singleton x o).symm
theorem sortG_perm {α : Type} (r : α → α → Bool) (D : List α) : ∀ k, k ≤ D.length → (sortG r D k).Perm (D.take k) := by
  intro k
  induction k with
  | zero => intro _; simp [sortG]
  | succ k ih =>
    intro hk
    have hx : D[k]? = some (D[k]'(by omega)) := List.getElem?_eq_getElem (by omega)
    generalize D[k]'(by omega) = x at hx
    rw [sortG_one hx, take_one hx]
    exact (insG_perm r _ x).trans ((ih (by omega)).append_right [x])
def ascC (l : List Cargo) : List Cargo := sortG idLt l l.length
theorem asc_perm (l : List Cargo) : (ascC l).Perm l := by
  have := sortG_perm idLt l l.length (Nat.le_refl _)
  rwa [List.take_length] at this
/-- What ShortestRow hands back. -/
def shortR (l : List Cargo) : (List Int × Int) × Bool := if cargoOk l = true then (((contC l.length [] (ascC l)).1.map (·.Id), (contC l.length [] (ascC l)).2), true) else (([], 0), false)
end Go.Proofs.Ytkeaobjcfkmjmaa
