/- The contract of the program's sorting of vessels by Id, out of the library's. -/
import Derived.Test.YtkeaobjcfkmjmaaQt
import Derived.Test.YtkeaobjcfkmjmaaSh7
import Derived.Test.YtkeaobjcfkmjmaaKx
import Derived.Test.YtkeaobjcfkmjmaaQ7e
import Derived.Test.YtkeaobjcfkmjmaaD7
namespace Go.Proofs.Ytkeaobjcfkmjmaa
open Go.RowKit Go.Shelf Go.Lib Go.Sort
instance : Inhabited Cargo := ⟨⟨0, 0, 0⟩⟩
set_option maxHeartbeats 1000000 in
/-- 'cmp.Compare(a.Id, b.Id)', in whatever world: two blocks are laid. -/
theorem byId_any (x y : Cargo) (W : World) : Calls Try.prog 75 #[x.val, y.val] W fun e w' => e = .returned (.int .i64 (cmpZ x.Id y.Id)) ∧ ∃ q os', w' = grow (W.drewN q) os' := by
  obtain ⟨a, b, c⟩ := x
  obtain ⟨a', b', c'⟩ := y
  simp only [Cargo.val]
  have hcon := Lib.hid (fun W' => compare_any a a' W')
  generalize cmpZ a a' = r at hcon ⊢
  go_enter Try.func75, Try.ntmps75
  go_wp2_with (go_at_call 66; refine (hcon.out _).mono ?_; rintro e w' ⟨rfl, rfl⟩)
  go_ret
  exact ⟨rfl, 0, _, by rw [alloc_eq_grow, alloc_eq_grow, grow_grow]; rfl⟩
theorem ltId (x y : Cargo) : ltOf (fun x y : Cargo => cmpZ x.Id y.Id) x y = idLt x y := by
  unfold ltOf cmpZ idLt
  by_cases h1 : x.Id < y.Id
  · simp [h1]
  · by_cases h2 : y.Id < x.Id <;> simp [h1, h2]
theorem swoId : SWO (ltOf fun x y : Cargo => cmpZ x.Id y.Id) where
  irrefl x := by rw [ltId]; simp [idLt]
  trans x y z h1 h2 := by rw [ltId] at *; simp [idLt] at *; omega
  ntrans x y z h1 h2 := by rw [ltId] at *; simp [idLt] at *; omega
/-- What the sorting leaves. -/
def SortedC (B g n c : Nat) (l : List Cargo) (w : World) (e : Ending) (w' : World) : Prop :=
  e = .returned (.tuple #[]) ∧ w.grownBy w' (some g) ∧ w'.ownsRow B 50 3 (.slice (some ⟨g, 0, none⟩) n c) n ((ascC l).flatMap Cargo.cs)
theorem asc_sorted {l : List Cargo} (hok : cargoOk l = true) {m : List Cargo} (hp : m.Perm l) (hs : m.Pairwise (Asc idLt)) : m = ascC l := by
  have has : ∀ x y : Cargo, idLt x y = true → idLt y x = false := by intro x y h; simp [idLt] at *; omega
  have htr : ∀ x y z : Cargo, idLt y x = false → idLt z y = false → idLt z x = false := by intro x y z h1 h2; simp [idLt] at *; omega
  refine asc_unique (r := idLt) m (ascC l) (hp.trans (asc_perm l).symm) hs (sortG_sorted has htr l l.length (Nat.le_refl _)) ?_
  intro a ha b hb h1 h2
  obtain ⟨i, hi, ei⟩ := List.getElem_of_mem (hp.mem_iff.1 ha)
  obtain ⟨j, hj, ej⟩ := List.getElem_of_mem (hp.mem_iff.1 hb)
  have hid : a.Id = b.Id := by simp [idLt] at h1 h2; omega
  have hij := ids_apart hok (i := i) (j := j) (p := a) (q := b) (by rw [List.getElem?_eq_getElem hi, ei]) (by rw [List.getElem?_eq_getElem hj, ej]) hid
  subst hij
  rw [← ei, ← ej]
set_option maxHeartbeats 1000000 in
theorem sortById_any (B g n c : Nat) (l : List Cargo) (w : World) (hok : cargoOk l = true) (hn : l.length = n) (ho : w.ownsRow B 50 3 (.slice (some ⟨g, 0, none⟩) n c) n (l.flatMap Cargo.cs)) :
    Calls Try.prog 74 #[.slice (some ⟨g, 0, none⟩) n c, .func (.func 75) #[] #[]] w (SortedC B g n c l w) := by
  subst hn
  have h6 := cargo_len hok
  have eg : ∀ args w, (callFunc 75 args).run Try.prog w = .ok (.enter 75 args) w := enters_of Try.func75 (by kernel_rfl) rfl
  have hH : Go.Sort.HoldsK Cargo.cs 3 w g 0 l.toArray := holds_own ho (flatK_list Cargo.cs 3 Cargo.cs_len l.toArray)
  have hcon := AnyQ.slices_SortFunc Try.sortC 3 Try.isAgg50 Try.sizeOf50 Cargo.cs Cargo.cs_len Cargo.one (fun x y : Cargo => cmpZ x.Id y.Id) swoId 75 #[] g 0 c l.toArray w eg (fun _ _ _ _ x y => byId_any x y _) hH (((own_lt ho).out g rfl).2) (by simp; omega)
  change Calls Try.prog 74 _ _ _ at hcon
  refine (show Calls Try.prog 74 #[.slice (some ⟨g, 0, none⟩) l.length c, .func (.func 75) #[] #[]] w _ from hcon).mono ?_
  rintro e w' ⟨rfl, d', m, os, hp, hs, rfl⟩
  have hsz : d'.size = l.length := hp.1
  have hpl : d'.toList.Perm l := by
    have := hp.2.2
    have e1 : d'.extract 0 l.toArray.size = d' := by
      rw [← hp.1]; simp
    rw [e1] at this
    simpa using this
  have hsl : d'.toList.Pairwise (Asc idLt) := by
    rw [List.pairwise_iff_getElem]
    intro i j hi hj hij
    have h1 := hs i j (Nat.zero_le _) hij (by simp at hj; simp; omega)
    rw [ltId] at h1
    simp at hi hj
    rw [getElem!_pos d' j (by omega), getElem!_pos d' i (by omega)] at h1
    show idLt _ _ = false
    simpa using h1
  have hfin := asc_sorted hok hpl hsl
  have hw := sort_world ho (F := Go.Sort.flatK Cargo.cs 3 d') (ys := (ascC l).flatMap Cargo.cs) (by rw [flatK_list Cargo.cs 3 Cargo.cs_len, hfin]) (by rw [flat_len _ 3 Cargo.cs_len, flat_len _ 3 Cargo.cs_len, (asc_perm l).length_eq]) m os
  exact ⟨rfl, hw.2, hw.1⟩
end Go.Proofs.Ytkeaobjcfkmjmaa
