/- The contract of the sorting of tables. -/
import Derived.Test.YtkeaobjcfkmjmaaC7l
namespace Go.Proofs.Ytkeaobjcfkmjmaa
open Go.RowKit Go.Shelf Go.Lib Go.Sort
theorem cmpP_lt (p q : Int × Int) : decide (cmpP p q < 0) = pLt p q := by
  obtain ⟨a, b⟩ := p; obtain ⟨c, d⟩ := q
  by_cases h1 : a < c
  · have : cmpZ a c = -1 := by simp [cmpZ, h1]
    simp [cmpP, pLt, this, h1]
  · by_cases h2 : c < a
    · have : cmpZ a c = 1 := by simp [cmpZ, h1, h2]
      have h3 : ¬ a = c := by omega
      simp [cmpP, pLt, this, h1, h3]
    · have e : a = c := by omega
      subst e
      have : cmpZ a a = 0 := by simp [cmpZ]
      by_cases h4 : b < d
      · have h5 : cmpZ b d = -1 := by simp [cmpZ, h4]
        simp [cmpP, pLt, this, h4, h5]
      · by_cases h6 : d < b
        · have h5 : cmpZ b d = 1 := by simp [cmpZ, h4, h6]
          simp [cmpP, pLt, this, h4, h5]
        · have h5 : cmpZ b d = 0 := by simp [cmpZ, h4, h6]
          simp [cmpP, pLt, this, h4, h5]
theorem extract_all {α : Type} (a : Array α) {k : Nat} (h : a.size = k) : a.extract 0 k = a := by subst h; simp
theorem putCells_id {α : Type} [Inhabited α] (enc : α → Value) (off : Nat) (d : Array α) (c : Array Value) : putCells enc off d c = putCells id off (d.map enc) c := by
  unfold putCells
  apply Array.ext
  · simp
  · intro i h1 h2
    simp only [Array.getElem_mapIdx, Array.size_map, id]
    split
    · rename_i h
      rw [getElem!_pos (d.map enc) (i - off) (by simp; omega), Array.getElem_map, getElem!_pos d (i - off) (by omega)]
    · rfl
theorem sortWorld_id {α : Type} [Inhabited α] (enc : α → Value) (w : World) (b off m : Nat) (d : Array α) (os : Array Obj) : sortWorld enc w b off m d os = grow (putRow id (Go.Sort.ahead w m) b off (d.map enc)) os := by
  unfold sortWorld putRow
  congr 2
  funext c
  exact putCells_id enc off d c
set_option maxHeartbeats 2000000 in
theorem sortTab_any (B b : Nat) (A : Option Addr) (n c : Nat) (gs : List Sv) (T : List (Int × Int)) (w : World) (hn20 : n ≤ 1048576) (ho : w.ownsRow B 36 1 (.slice A n c) n (gs.flatMap cr)) (hl : gs.length = n) (hI : In b w gs T) :
    Calls Try.prog 80 #[.slice A n c, .func (.func 81) #[] #[]] w fun e w' => e = .returned (.tuple #[]) ∧ w.grownBy w' (Value.slice A n c).ownBlock ∧ ∃ gs' T', w'.ownsRow B 36 1 (.slice A n c) n (gs'.flatMap cr) ∧ gs'.length = n ∧ T'.Perm T ∧ T'.Pairwise (Asc pLt) ∧ In b w' gs' T' := by
  by_cases h0 : n = 0
  · subst h0
    obtain rfl := List.eq_nil_of_length_eq_zero hl
    obtain rfl : T = [] := List.eq_nil_of_length_eq_zero (by rw [← hI.len]; rfl)
    have hS := AnyF.slices_SortFunc_none (P := Try.prog) (ρ := Try.sortR_ren) { Try.sortR with } A c (.func (.func 81) #[] #[]) w
    change Calls Try.prog 80 _ _ _ at hS
    refine (show Calls Try.prog 80 #[.slice A 0 c, .func (.func 81) #[] #[]] w _ from hS).mono ?_
    rintro e w' ⟨rfl, rfl⟩
    exact ⟨rfl, (Bl.refl _).grownBy _, [], [], ho, rfl, List.Perm.refl _, List.Pairwise.nil, In.nil⟩
  rcases own_forms ho with ⟨_, h9, _⟩ | ⟨g, rfl⟩
  · exact absurd h9 h0
  subst hl
  haveI : Inhabited (Fin gs.length) := ⟨⟨0, by omega⟩⟩
  have hTl := hI.len
  let enc : Fin gs.length → Value := fun i => .slice (some ⟨gs[i.1], 0, none⟩) 2 2
  let ct : Fin gs.length → Int × Int := fun i => T[i.1]'(by rw [← hTl]; exact i.2)
  have hat : ∀ i : Fin gs.length, w.heap[gs[i.1]]? = some (.cells #[.int .i64 (ct i).1, .int .i64 (ct i).2] 3 (0, 0)) := fun i =>
    (hI.at_ i.1 _ _ (List.getElem?_eq_getElem i.2) (List.getElem?_eq_getElem (by rw [← hTl]; exact i.2))).2
  let d : Array (Fin gs.length) := Array.ofFn id
  have hd : d.size = gs.length := by simp [d]
  have hne : ∀ i : Fin gs.length, gs[i.1] ≠ g := fun i e => hI.apart ho gs[i.1] (List.getElem_mem ..) (by rw [e]; rfl)
  have eg : ∀ args w, (callFunc 81 args).run Try.prog w = .ok (.enter 81 args) w := enters_of Try.func81 (by kernel_rfl) rfl
  have hH : Holds enc w g 0 d := by
    intro j hj
    have hjl : j < gs.length := by rw [← hd]; exact hj
    have h2 := holds_own ho (F := (gs.flatMap cr).toArray) (by simp) j (by simp [flat_len cr 1 cr_len]; omega)
    refine ⟨h2.1.trans ?_, h2.2⟩
    rw [getElem!_pos d j hj]
    have e1 : (gs.flatMap cr)[j]? = some (.slice (some ⟨gs[j], 0, none⟩) 2 2) := by
      have := flat_get cr 1 cr_len gs j gs[j] (List.getElem?_eq_getElem hjl) 0 (by omega)
      rw [Nat.mul_one, Nat.add_zero] at this
      rw [this]; rfl
    congr 1
    rw [getElem!_pos _ j (by simp [flat_len cr 1 cr_len]; omega)]
    have := (List.getElem?_eq_some_iff.1 e1).2
    simp only [id, List.getElem_toArray, this, enc, d, Array.getElem_ofFn]
  have hcon := Any.slices_SortFunc Try.sortR enc (fun _ => rfl) (fun i j => cmpP (ct i) (ct j)) ⟨fun x => by simp only [ltOf, cmpP_lt]; simp [pLt], fun x y z => by
      simp only [ltOf, cmpP_lt]
      intro h1 h2
      cases h3 : pLt (ct x) (ct z)
      · have := pLt_nt (ct z) (ct x) (ct y) h3 (pLt_as _ _ h1)
        rw [h2] at this; cases this
      · rfl, fun x y z => by
      simp only [ltOf, cmpP_lt]
      intro h1 h2
      exact pLt_nt _ _ _ h2 h1⟩ 81 #[] g 0 c d w eg (fun m os dk _ x y => by
        have hb : ∀ i : Fin gs.length, (sortWorld enc w g 0 m dk os).heap[gs[i.1]]? = w.heap[gs[i.1]]? := fun i => by
          have hlt := lt_of_block (hat i)
          simp only [sortWorld, grow, putRow, mapBlock, ahead]
          rw [Array.getElem?_append_left (by simpa using hlt), Array.getElem?_modify, if_neg (Ne.symm (hne i))]
          rfl
        refine (comparePair_any gs[x.1] gs[y.1] (ct x).1 (ct x).2 (ct y).1 (ct y).2 _ ((hb x).trans (hat x)) ((hb y).trans (hat y))).mono ?_
        rintro e w' ⟨rfl, rfl⟩
        exact ⟨rfl, 0, #[], by rw [grow_empty]; rfl⟩) hH (((own_lt ho).out g rfl).2) (by rw [hd]; omega)
  change Calls Try.prog 80 _ _ _ at hcon
  rw [hd] at hcon
  refine (show Calls Try.prog 80 #[.slice (some ⟨g, 0, none⟩) gs.length c, .func (.func 81) #[] #[]] w _ from hcon).mono ?_
  rintro e w' ⟨rfl, d', m, os, hp, hs, rfl⟩
  have hsz : d'.size = gs.length := hp.1.trans hd
  have hall : ∀ {β : Type} (f : Fin gs.length → β) (l : List β) (_ : l.length = gs.length) (_ : ∀ i : Fin gs.length, l[i.1]? = some (f i)), d.toList.map f = l := by
    intro β f l hll hf
    apply List.ext_getElem?
    intro i
    by_cases hi : i < gs.length
    · rw [List.getElem?_map]
      have : d.toList[i]? = some ⟨i, hi⟩ := by simp [d, hi]
      rw [this]
      exact (hf ⟨i, hi⟩).symm
    · rw [List.getElem?_eq_none (by simp [d]; omega), List.getElem?_eq_none (by omega)]
  have hpl : d'.toList.Perm d.toList := by
    have h9 := hp.2.2
    have e1 := extract_all d' hsz
    have e2 := extract_all d hd
    rw [e1, e2] at h9
    exact h9
  have pg : (d'.toList.map fun i => gs[i.1]).Perm gs := by
    have := hpl.map (fun i : Fin gs.length => gs[i.1])
    rw [hall (fun i => gs[i.1]) gs rfl (fun i => List.getElem?_eq_getElem i.2)] at this
    exact this
  have pT : (d'.toList.map ct).Perm T := by
    have := hpl.map ct
    rw [hall ct T hTl.symm (fun i => List.getElem?_eq_getElem (by rw [← hTl]; exact i.2))] at this
    exact this
  have hfl : (d'.map enc).toList = (d'.toList.map fun i => gs[i.1]).flatMap cr := by
    rw [Array.toList_map]
    induction d'.toList with
    | nil => rfl
    | cons x l ih => rw [List.map_cons, List.map_cons, List.flatMap_cons, ih]; rfl
  have hw := sort_world ho (F := d'.map enc) (ys := (d'.toList.map fun i => gs[i.1]).flatMap cr) hfl (by rw [flat_len _ 1 cr_len, flat_len _ 1 cr_len, pg.length_eq]) m os
  rw [← sortWorld_id] at hw
  refine ⟨rfl, hw.2, d'.toList.map (fun i => gs[i.1]), d'.toList.map ct, hw.1, pg.length_eq, pT, ?_, ⟨by simp, ?_, pg.nodup_iff.2 hI.nd⟩⟩
  · rw [List.pairwise_iff_getElem]
    intro i j hi hj hij
    simp at hi hj
    have h1 := hs i j (Nat.zero_le _) hij (by omega)
    simp only [ltOf, cmpP_lt] at h1
    rw [getElem!_pos d' j (by omega), getElem!_pos d' i (by omega)] at h1
    show pLt _ _ = false
    simpa using h1
  · intro i k p e1 e2
    rw [List.getElem?_map] at e1 e2
    cases hx : d'.toList[i]? with
    | none => rw [hx] at e1; cases e1
    | some x =>
      rw [hx] at e1 e2
      obtain rfl := Option.some.inj e1
      obtain rfl := Option.some.inj e2
      refine ⟨(hI.at_ x.1 _ _ (List.getElem?_eq_getElem x.2) (List.getElem?_eq_getElem (by rw [← hTl]; exact x.2))).1, ?_⟩
      rw [hw.2.block _ (lt_of_block (hat x)) (fun e => hne x (by injection e))]
      exact hat x
end Go.Proofs.Ytkeaobjcfkmjmaa
