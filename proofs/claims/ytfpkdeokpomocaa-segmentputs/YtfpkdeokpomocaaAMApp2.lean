import Derived.Test.YtfpkdeokpomocaaAMApp
set_option linter.constructorNameAsVariable false
set_option linter.unusedVariables false
set_option linter.unusedSimpArgs false
set_option linter.unusedVariables false
set_option linter.unusedSimpArgs false
namespace Go.AM
open Go
variable {P : Program} {N : Nat} {Γ : Gam} {h : Heap} {w : World} {σ : Slots} {a : Act} {o : GOper} {next : Act → World → Prop}
  {Q : _root_.Go.Exit → Act → World → Prop} {r : Val × Heap} {K : Val → Heap → R}
def Heap.setTok (h : Heap) (t n : Nat) : Heap := if t = h.next then h.add (.tok n) else h.put t (.tok n)
theorem Heap.blk_setTok (h : Heap) (t n m : Nat) : (h.setTok t n).blk m = if m = t then some (.tok n) else h.blk m := by
  unfold Heap.setTok
  split
  · rename_i e; subst e; exact Heap.blk_add h _ m
  · exact Heap.blk_put h t _ m
theorem Heap.next_setTok (h : Heap) (t n : Nat) : h.next ≤ (h.setTok t n).next ∧ (t ≤ h.next → t < (h.setTok t n).next) := by
  unfold Heap.setTok
  split
  · rename_i e; subst e; rw [Heap.next_add]; omega
  · rw [Heap.next_put]; omega
def Gam.addTk (Γ : Gam) (t n B q c z : Nat) : Gam := { Γ with tk := fun x y => if x = t ∧ y = n then some (B, q, c, z) else Γ.tk x y }
def Gam.newTk (Γ : Gam) (t n B c z : Nat) (f : Nat → Option Value) : Gam :=
  { bl := Γ.bl, ro := fun x => if x = B then some (.tok t) else Γ.ro x, pr := fun x i => if x = B then f i else Γ.pr x i, tk := fun x y => if x = t ∧ y = n then some (B, 0, c, z) else Γ.tk x y }
theorem Gam.newTk_le (hh : HRel Γ h w N) {t n c z : Nat} {f : Nat → Option Value} (ht : Γ.tk t n = none) : Γ.Le (Γ.newTk t n w.heap.size c z f) :=
  ⟨fun _ _ h => h, fun B r hr => by
    simp only [Gam.newTk]
    by_cases e : B = w.heap.size
    · subst e; rw [hh.ronone (Nat.le_refl _)] at hr; cases hr
    · rw [if_neg e]; exact hr, fun B q v hv => by
    simp only [Gam.newTk]
    by_cases e : B = w.heap.size
    · subst e; rw [hh.prnone (Nat.le_refl _)] at hv; cases hv
    · rw [if_neg e]; exact hv, fun x y u hu => by
    simp only [Gam.newTk]
    by_cases e : x = t ∧ y = n
    · obtain ⟨rfl, rfl⟩ := e; rw [ht] at hu; cases hu
    · rw [if_neg e]; exact hu⟩
theorem HRel.newTk (hh : HRel Γ h w N) (hN : N ≤ w.heap.size) {t n c z : Nat} (hold : t = h.next ∨ ∃ m, h.blk t = some (.tok m) ∧ m < n) (arr : Array Value) (e : TypeId) (hsz : c * z ≤ arr.size) (hnc : n ≤ c) :
    HRel (Γ.newTk t n w.heap.size c z (fun i => if i < n * z then arr[i]? else none)) (h.setTok t n) (w.alloc (.cells arr e)) N := by
  have htn : Γ.tk t n = none := by
    rcases hold with rfl | ⟨m, hm, hmn⟩
    · exact hh.tknone (Nat.le_refl _)
    · cases e1 : Γ.tk t n with
      | none => rfl
      | some x =>
        obtain ⟨m', hm', hle⟩ := (hh.tklt t n x e1).1
        rw [hm] at hm'
        simp at hm'
        omega
  have hle := Gam.newTk_le hh (c := c) (z := z) (f := fun i => if i < n * z then arr[i]? else none) htn
  have htle : t ≤ h.next := by
    rcases hold with rfl | ⟨m, hm, -⟩
    · exact Nat.le_refl _
    · exact Nat.le_of_lt (hh.lt _ _ hm)
  obtain ⟨hn1, hn2⟩ := Heap.next_setTok h t n
  have hblt : ∀ b x, h.blk b = some x → (∀ m, x ≠ .tok m) → b ≠ t := fun b x hb hx e1 => by
    subst e1
    rcases hold with rfl | ⟨m, hm, -⟩
    · have := hh.lt _ _ hb; omega
    · rw [hm] at hb; simp at hb; exact hx m hb.symm
  refine ⟨fun b x hb => ?_, fun b B hb => ?_, fun B r hr => ?_, fun B q v hv => ?_, fun t' n' x ht => ?_, fun b l hb => ?_, fun t' n' ht => ?_, fun b l hb => ?_⟩
  · rw [Heap.blk_setTok] at hb
    split at hb
    · rename_i e1; subst e1; exact hn2 htle
    · have := hh.lt b x hb; omega
  · have h1 := hh.bllt b B hb
    exact ⟨by omega, hle.ro _ _ h1.2⟩
  · simp only [Gam.newTk] at hr
    by_cases e1 : B = w.heap.size
    · subst e1; exact ⟨hN, by simp⟩
    · rw [if_neg e1] at hr
      have := hh.rolt B r hr
      exact ⟨this.1, by simp; omega⟩
  · simp only [Gam.newTk] at hv ⊢
    by_cases e1 : B = w.heap.size
    · subst e1
      rw [if_pos rfl] at hv
      refine ⟨?_, fun b hb => by rw [if_pos rfl] at hb; cases hb⟩
      rw [cell_of_row (w.alloc (.cells arr e)) w.heap.size q arr e _ (heap_alloc_new w _)]
      split at hv
      · exact hv
      · cases hv
    · rw [if_neg e1] at hv
      have h1 := hh.prok B q v hv
      have h2 := World.block_lt_of_cell? w _ h1.1
      simp at h2
      exact ⟨by rw [World.cell?_alloc_lt w _ _ h2]; exact h1.1, fun b hb => by rw [if_neg e1] at hb; exact h1.2 b hb⟩
  · simp only [Gam.newTk] at ht
    by_cases e1 : t' = t ∧ n' = n
    · rw [if_pos e1] at ht
      simp at ht
      obtain ⟨rfl, rfl⟩ := e1
      subst ht
      exact ⟨⟨n', by rw [Heap.blk_setTok, if_pos rfl], Nat.le_refl _⟩, by simp [Gam.newTk]⟩
    · rw [if_neg e1] at ht
      obtain ⟨⟨m, hm, hnm⟩, h2⟩ := hh.tklt t' n' x ht
      refine ⟨?_, hle.ro _ _ h2⟩
      by_cases e2 : t' = t
      · subst e2
        refine ⟨n, by rw [Heap.blk_setTok, if_pos rfl], ?_⟩
        rcases hold with rfl | ⟨m', hm', hlt⟩
        · have := hh.lt _ _ hm; omega
        · rw [hm'] at hm; simp at hm; omega
      · exact ⟨m, by rw [Heap.blk_setTok, if_neg e2]; exact hm, hnm⟩
  · rw [Heap.blk_setTok] at hb
    split at hb
    · simp at hb
    · obtain ⟨B, c1, e1, fr1, h1, h2, h3, h4⟩ := hh.cells b l hb
      exact ⟨B, c1, e1, fr1, h1, by rw [heap_alloc_lt w _ (lt_of_heap h2)]; exact h2, h3, fun i hi => ⟨(h4 i hi).1.mono hle, (h4 i hi).2⟩⟩
  · rw [Heap.blk_setTok] at ht
    split at ht
    · rename_i e1
      simp at ht
      subst e1 ht
      refine ⟨w.heap.size, 0, c, z, arr, e, (0, 0), by simp [Gam.newTk], heap_alloc_new w _, by simpa using hsz, fun i hi => ?_, fun i hi hi2 => by omega⟩
      simp only [Gam.newTk, if_pos]
      rw [if_neg (by omega)]
    · rename_i e1
      obtain ⟨B, q, c1, z1, arr1, e2, fr1, h1, h2, h3, h4, h5⟩ := hh.toks t' n' ht
      refine ⟨B, q, c1, z1, arr1, e2, fr1, hle.tk _ _ _ h1, by rw [heap_alloc_lt w _ (lt_of_heap h2)]; exact h2, h3, fun i hi => ?_, h5⟩
      simp only [Gam.newTk]
      rw [if_neg (by have := lt_of_heap h2; omega)]
      exact h4 i hi
  · rw [Heap.blk_setTok] at hb
    split at hb
    · simp at hb
    · exact hh.maps b l hb
def Gam.putTk (Γ : Gam) (t n B q c z lo hi : Nat) (f : Nat → Option Value) : Gam :=
  { bl := Γ.bl, ro := Γ.ro, pr := fun x i => if x = B ∧ lo ≤ i ∧ i < hi then f i else Γ.pr x i, tk := fun x y => if x = t ∧ y = n then some (B, q, c, z) else Γ.tk x y }
theorem HRel.putTk (hh : HRel Γ h w N) {t n n' B q c z : Nat} (ht : h.blk t = some (.tok n)) (hk : Γ.tk t n = some (B, q, c, z)) (hnn : n < n') (hnc : n' ≤ c) (vs : List Value) (hvl : vs.length = (n' - n) * z) :
    let Δ := Γ.putTk t n' B q c z (q + n * z) (q + n' * z) (fun i => vs[i - (q + n * z)]?)
    Γ.Le Δ ∧ HRel Δ (h.setTok t n') (w.setCells B (q + n * z) vs) N ∧ Frame Γ Δ w (w.setCells B (q + n * z) vs) ∧
    (∀ j, j < vs.length → (w.cell? ⟨B, q + n * z + 0 + j, none⟩).isSome = true) ∧ (∀ j, j < vs.length → w.frozen? ⟨B, q + n * z + 0 + j, none⟩ = false) := by
  intro Δ
  obtain ⟨B', q', c', z', arr, e, fr, k1, k2, k3, k4, k5⟩ := hh.toks t n ht
  rw [hk] at k1
  simp at k1
  obtain ⟨rfl, rfl, rfl, rfl⟩ := k1
  have hro := (hh.tklt t n _ hk).2
  simp only at hro
  have hnz : n * z ≤ n' * z := Nat.mul_le_mul_right _ (by omega)
  have hcz : n' * z ≤ c * z := Nat.mul_le_mul_right _ hnc
  have hvl' : vs.length = n' * z - n * z := by rw [hvl, Nat.sub_mul]
  have htn : Γ.tk t n' = none := by
    cases e1 : Γ.tk t n' with
    | none => rfl
    | some x =>
      obtain ⟨m', hm', hle⟩ := (hh.tklt t n' x e1).1
      rw [ht] at hm'
      simp at hm'
      omega
  have hle : Γ.Le Δ := ⟨fun _ _ h => h, fun _ _ h => h, fun B' i v hv => by
      show (if B' = B ∧ q + n * z ≤ i ∧ i < q + n' * z then _ else Γ.pr B' i) = some v
      by_cases e1 : B' = B ∧ q + n * z ≤ i ∧ i < q + n' * z
      · obtain ⟨rfl, e2, -⟩ := e1
        rw [k4 i e2] at hv; cases hv
      · rw [if_neg e1]; exact hv, fun x y u hu => by
      show (if x = t ∧ y = n' then _ else Γ.tk x y) = some u
      by_cases e1 : x = t ∧ y = n'
      · obtain ⟨rfl, rfl⟩ := e1; rw [htn] at hu; cases hu
      · rw [if_neg e1]; exact hu⟩
  obtain ⟨c', g1, g2, g3⟩ := heap_setCells_at B vs (q + n * z) w arr e fr k2 (by omega)
  obtain ⟨hn1, hn2⟩ := Heap.next_setTok h t n'
  have hw : (∀ j, j < vs.length → (w.cell? ⟨B, q + n * z + 0 + j, none⟩).isSome = true) ∧ (∀ j, j < vs.length → w.frozen? ⟨B, q + n * z + 0 + j, none⟩ = false) := by
    refine ⟨fun j hj => ?_, fun j hj => ?_⟩
    · rw [cell_of_row w B _ arr e fr k2, Array.getElem?_eq_getElem (show q + n * z + 0 + j < arr.size by omega)]
      rfl
    · have := k5 (q + n * z + 0 + j) (by omega) (by omega)
      obtain ⟨f1, f2⟩ := fr
      simp only [World.frozen?, k2]
      rw [Bool.and_eq_false_iff]
      simp only [decide_eq_false_iff_not]
      simp at this
      omega
  refine ⟨hle, ⟨fun b x hb => ?_, fun b B' hb => ?_, fun B' r hr => by rw [size_setCells]; exact hh.rolt B' r hr, fun B' i v hv => ?_, fun t' m x hx => ?_, fun b l hb => ?_, fun t' m hm => ?_, fun b l hb => ?_⟩, ?_, hw.1, hw.2⟩
  · rw [Heap.blk_setTok] at hb
    split at hb
    · rename_i e1; subst e1; exact hn2 (Nat.le_of_lt (hh.lt _ _ ht))
    · have := hh.lt b x hb; omega
  · have h1 := hh.bllt b B' hb
    exact ⟨by omega, h1.2⟩
  · change (if B' = B ∧ q + n * z ≤ i ∧ i < q + n' * z then vs[i - (q + n * z)]? else Γ.pr B' i) = some v at hv
    by_cases e1 : B' = B ∧ q + n * z ≤ i ∧ i < q + n' * z
    · obtain ⟨rfl, e2, e3⟩ := e1
      rw [if_pos ⟨rfl, e2, e3⟩] at hv
      refine ⟨?_, fun b hb => by have hb' : Γ.ro B' = some (.blk b) := hb; rw [hro] at hb'; cases hb'⟩
      rw [cell_of_row _ B' i c' e fr g1]
      have hi : i < c'.size := by omega
      have := g3 i
      rw [if_pos ⟨e2, by omega⟩] at this
      rw [Array.getElem?_eq_getElem hi]
      rw [Array.getD_eq_getD_getElem?, Array.getElem?_eq_getElem hi] at this
      simp only [Option.getD_some] at this
      rw [this, List.getD_eq_getElem?_getD, hv]
      rfl
    · rw [if_neg e1] at hv
      have h1 := hh.prok B' i v hv
      refine ⟨?_, h1.2⟩
      rw [World.cell?_setCells_out B vs (q + n * z) w _ (fun eB _ => ?_)]
      · exact h1.1
      · simp at eB
        subst eB
        by_cases h6 : i < q + n * z
        · exact .inl h6
        · rw [k4 i (by omega)] at hv; cases hv
  · change (if t' = t ∧ m = n' then some (B, q, c, z) else Γ.tk t' m) = some x at hx
    by_cases e1 : t' = t ∧ m = n'
    · rw [if_pos e1] at hx
      obtain ⟨rfl, rfl⟩ := e1
      simp at hx
      subst hx
      exact ⟨⟨m, by rw [Heap.blk_setTok, if_pos rfl], Nat.le_refl _⟩, hro⟩
    · rw [if_neg e1] at hx
      obtain ⟨⟨m', hm', hnm⟩, h2⟩ := hh.tklt t' m x hx
      refine ⟨?_, h2⟩
      by_cases e2 : t' = t
      · subst e2
        rw [ht] at hm'
        simp at hm'
        exact ⟨n', by rw [Heap.blk_setTok, if_pos rfl], by omega⟩
      · exact ⟨m', by rw [Heap.blk_setTok, if_neg e2]; exact hm', hnm⟩
  · rw [Heap.blk_setTok] at hb
    split at hb
    · simp at hb
    · obtain ⟨B2, c2, e2, fr2, j1, j2, j3, j4⟩ := hh.cells b l hb
      have hne : B2 ≠ B := fun e3 => by
        subst e3
        have := (hh.bllt b B2 j1).2
        rw [hro] at this
        cases this
      exact ⟨B2, c2, e2, fr2, j1, by rw [heap_setCells_other B vs _ w _ hne]; exact j2, j3, fun i hi => ⟨(j4 i hi).1.mono hle, (j4 i hi).2⟩⟩
  · rw [Heap.blk_setTok] at hm
    split at hm
    · rename_i e1
      simp at hm
      subst e1 hm
      refine ⟨B, q, c, z, c', e, fr, by simp [Δ, Gam.putTk], g1, by omega, fun i hi => ?_, fun i hi hi2 => k5 i (by omega) hi2⟩
      show (if B = B ∧ q + n * z ≤ i ∧ i < q + n' * z then _ else Γ.pr B i) = none
      rw [if_neg (by omega)]
      exact k4 i (by omega)
    · rename_i e1
      obtain ⟨B2, q2, c2, z2, arr2, e2, fr2, j1, j2, j3, j4, j5⟩ := hh.toks t' m hm
      have hne : B2 ≠ B := fun e3 => by
        subst e3
        have := (hh.tklt t' m _ j1).2
        simp only at this
        rw [hro] at this
        simp at this
        exact e1 this.symm
      refine ⟨B2, q2, c2, z2, arr2, e2, fr2, hle.tk _ _ _ j1, by rw [heap_setCells_other B vs _ w _ hne]; exact j2, j3, fun i hi => ?_, j5⟩
      show (if B2 = B ∧ _ then _ else Γ.pr B2 i) = none
      rw [if_neg (fun e => hne e.1)]
      exact j4 i hi
  · rw [Heap.blk_setTok] at hb
    split at hb
    · simp at hb
    · exact hh.maps b l hb
  · obtain ⟨h1, h2, h3⟩ := os_setCells B vs (q + n * z) w
    exact ⟨h1, h2, h3, by rw [size_setCells]; exact Nat.le_refl _, fun B' _ hr => heap_setCells_other B vs _ w B' (fun e => by rw [e, hro] at hr; cases hr), fun _ _ h => h, fun B' i _ hr => by
      show (if B' = B ∧ q + n * z ≤ i ∧ i < q + n' * z then _ else Γ.pr B' i) = _
      rw [if_neg (fun e => by rw [e.1, hro] at hr; cases hr)]⟩
end Go.AM
