import Derived.Test.YtfpkdeokpomocaaAMMem
import Derived.Laws.MakeOwn
set_option linter.constructorNameAsVariable false
set_option linter.unusedVariables false
set_option linter.unusedSimpArgs false
set_option linter.unusedVariables false
set_option linter.unusedSimpArgs false
namespace Go.AM
open Go
variable {P : Program} {N : Nat} {Γ : Gam} {h : Heap} {w : World} {σ : Slots} {a : Act} {o : GOper} {next : Act → World → Prop}
  {Q : _root_.Go.Exit → Act → World → Prop} {r : Val × Heap} {K : Val → Heap → R}
theorem heap_setCell_at (w : World) (B i : Nat) (c : Array Value) (e : TypeId) (fr : Nat × Nat) (v : Value) (hg : w.heap[B]? = some (.cells c e fr)) :
    (w.setCell ⟨B, i, none⟩ v).heap[B]? = some (.cells (c.setIfInBounds i v) e fr) := by
  simp [World.setCell, Array.getElem?_modify, hg]
theorem size_setCells (B : Nat) : ∀ (vs : List Value) (q : Nat) (w : World), (w.setCells B q vs).heap.size = w.heap.size
  | [], _, _ => rfl
  | v :: vs, q, w => by rw [World.setCells, size_setCells B vs, World.size_setCell]
theorem heap_setCells_other (B : Nat) : ∀ (vs : List Value) (q : Nat) (w : World) (k : Nat), k ≠ B → (w.setCells B q vs).heap[k]? = w.heap[k]?
  | [], _, _, _, _ => rfl
  | v :: vs, q, w, k, h => by rw [World.setCells, heap_setCells_other B vs _ _ _ h, heap_setCell_other w _ _ _ h]
theorem heap_setCells_at (B : Nat) : ∀ (vs : List Value) (q : Nat) (w : World) (c : Array Value) (e : TypeId) (fr : Nat × Nat), w.heap[B]? = some (.cells c e fr) → q + vs.length ≤ c.size →
    ∃ c', (w.setCells B q vs).heap[B]? = some (.cells c' e fr) ∧ c'.size = c.size ∧ ∀ i, c'.getD i undef = if q ≤ i ∧ i < q + vs.length then vs.getD (i - q) undef else c.getD i undef
  | [], q, w, c, e, fr, hg, hle => ⟨c, hg, rfl, fun i => by rw [if_neg (by simp <;> omega)]⟩
  | v :: vs, q, w, c, e, fr, hg, hle => by
    simp at hle
    obtain ⟨c', h1, h2, h3⟩ := heap_setCells_at B vs (q + 1) (w.setCell ⟨B, q, none⟩ v) _ e fr (heap_setCell_at w B q c e fr v hg) (by simp; omega)
    refine ⟨c', h1, by simpa using h2, fun i => ?_⟩
    rw [h3 i]
    by_cases hi : i = q
    · subst hi
      rw [if_neg (by omega), if_pos (by simp)]
      have : i < c.size := by omega
      simp [this]
    · by_cases hi2 : q + 1 ≤ i ∧ i < q + 1 + vs.length
      · rw [if_pos hi2, if_pos (by simp; omega), show i - q = (i - (q + 1)) + 1 by omega]
        simp
      · rw [if_neg hi2, if_neg (by simp; omega)]
        simp only [Array.getD_eq_getD_getElem?]
        rw [Array.getElem?_setIfInBounds_ne (fun e => hi e.symm)]
theorem os_setCells (B : Nat) : ∀ (vs : List Value) (q : Nat) (w : World), (w.setCells B q vs).os = w.os ∧ (w.setCells B q vs).tape = w.tape ∧ (w.setCells B q vs).output = w.output
  | [], _, _ => ⟨rfl, rfl, rfl⟩
  | v :: vs, q, w => os_setCells B vs (q + 1) (w.setCell ⟨B, q, none⟩ v)
theorem HRel.store (hh : HRel Γ h w N) {b B q : Nat} {l xs : List Val} {vs : List Value} (hB : Γ.bl b = some B) (hl : h.blk b = some (.cells l)) (hle : q + xs.length ≤ l.length) (hr : CRel Γ xs vs) :
    HRel Γ (h.put b (.cells (l.take q ++ xs ++ l.drop (q + xs.length)))) (w.setCells B q vs) N := by
  obtain ⟨B', c, e, fr, h1, h2, h3, h4⟩ := hh.cells b l hl
  rw [hB] at h1
  simp at h1
  subst h1
  have hvl : vs.length = xs.length := hr.len.symm
  obtain ⟨c', g1, g2, g3⟩ := heap_setCells_at B vs q w c e fr h2 (by omega)
  have hro := (hh.bllt b B hB).2
  refine ⟨fun x y hx => ?_, hh.bllt, fun B' r hr => by rw [size_setCells]; exact hh.rolt B' r hr, fun B' q' v hv => ?_, fun t n x ht => ?_, fun x l' hx => ?_, fun t n ht => ?_, fun x l' hx => ?_⟩
  · rw [Heap.blk_put] at hx
    rw [Heap.next_put]
    split at hx
    · rename_i e1; subst e1; exact hh.lt _ _ hl
    · exact hh.lt x y hx
  · have hp := hh.prok B' q' v hv
    refine ⟨?_, hp.2⟩
    have hne : B' ≠ B := fun e => hp.2 b (by rw [e]; exact hro)
    rw [World.cell?_setCells_out B vs q w _ (fun e => absurd e hne)]
    exact hp.1
  · obtain ⟨⟨m, hm, hnm⟩, k2⟩ := hh.tklt _ _ _ ‹_›
    refine ⟨⟨m, ?_, hnm⟩, k2⟩
    rw [Heap.blk_put, if_neg]
    · exact hm
    · intro e1; rw [e1, hl] at hm; simp at hm
  · rw [Heap.blk_put] at hx
    split at hx
    · rename_i e1
      subst e1
      simp only [Option.some.injEq, Blk.cells.injEq] at hx
      subst hx
      refine ⟨B, c', e, fr, hB, g1, by rw [g2]; simp; omega, fun i hi => ?_⟩
      have hi' : i < l.length := by simp at hi; omega
      have h5 := h4 i hi'
      rw [g3 i]
      by_cases hiq : q ≤ i ∧ i < q + vs.length
      · rw [if_pos hiq]
        have e2 : (l.take q ++ xs ++ l.drop (q + xs.length)).getD i .unk = xs.getD (i - q) .unk := by
          have ht : (l.take q).length = q := by rw [List.length_take]; omega
          rw [List.getD_eq_getElem?_getD, List.append_assoc, List.getElem?_append_right (by omega), ht, List.getElem?_append_left (by omega), List.getD_eq_getElem?_getD]
        rw [e2]
        exact ⟨hr.rel (i - q) (by omega), hr.one (i - q) (by omega), h5.2.2⟩
      · rw [if_neg hiq]
        have e2 : (l.take q ++ xs ++ l.drop (q + xs.length)).getD i .unk = l.getD i .unk := by
          have ht : (l.take q).length = q := by rw [List.length_take]; omega
          by_cases hlt : i < q
          · rw [List.getD_eq_getElem?_getD, List.append_assoc, List.getElem?_append_left (by omega), List.getElem?_take_of_lt hlt, List.getD_eq_getElem?_getD]
          · have hge : q + xs.length ≤ i := by omega
            rw [List.getD_eq_getElem?_getD, List.getElem?_append_right (by simp; omega), List.getElem?_drop, List.getD_eq_getElem?_getD]
            congr 2
            simp
            omega
        rw [e2]
        exact h5
    · rename_i e1
      obtain ⟨B2, c2, e2, fr2, k1, k2, k3, k4⟩ := hh.cells x l' hx
      have hne : B2 ≠ B := fun e3 => by
        subst e3
        have := (hh.bllt x B2 k1).2
        rw [hro] at this
        simp at this
        exact e1 this.symm
      exact ⟨B2, c2, e2, fr2, k1, by rw [heap_setCells_other B vs q w _ hne]; exact k2, k3, k4⟩
  · rw [Heap.blk_put] at ht
    split at ht
    · simp at ht
    · obtain ⟨B2, q2, c2, z, arr2, e2, fr2, k1, k2, k3, k4, k5⟩ := hh.toks t n ht
      have hne : B2 ≠ B := fun e3 => by
        subst e3
        have := (hh.tklt t n _ k1).2
        simp at this
        rw [hro] at this
        cases this
      exact ⟨B2, q2, c2, z, arr2, e2, fr2, k1, by rw [heap_setCells_other B vs q w _ hne]; exact k2, k3, k4, k5⟩
  · rw [Heap.blk_put] at hx
    split at hx
    · simp at hx
    · exact hh.maps x l' hx
theorem Frame.store {B b : Nat} (hro : Γ.ro B = some (.blk b)) (q : Nat) (vs : List Value) : Frame Γ Γ w (w.setCells B q vs) := by
  obtain ⟨h1, h2, h3⟩ := os_setCells B vs q w
  exact ⟨h1, h2, h3, by rw [size_setCells]; exact Nat.le_refl _, fun B' _ hr => heap_setCells_other B vs q w B' (fun e => by rw [e, hro] at hr; cases hr), fun _ _ h => h, fun _ _ _ _ => rfl⟩
theorem Heap.set_some {b q : Nat} {xs : List Val} {h' : Heap} (hk : h.set b q xs = some h') : ∃ l, h.blk b = some (.cells l) ∧ q + xs.length ≤ l.length ∧ h' = h.put b (.cells (l.take q ++ xs ++ l.drop (q + xs.length))) := by
  unfold Heap.set at hk
  split at hk
  · rename_i l hl
    obtain ⟨l', h1, rfl⟩ := Option.map_eq_some_iff.1 hk
    obtain ⟨rfl, h2⟩ := putN_some h1
    exact ⟨l, hl, h2, rfl⟩
  · cases hk
theorem HRel.wr (hh : HRel Γ h w N) {b B q n : Nat} {l : List Val} (hB : Γ.bl b = some B) (hl : h.blk b = some (.cells l)) (hle : q + n ≤ l.length) :
    (∀ j, j < n → (w.cell? ⟨B, q + 0 + j, none⟩).isSome = true) ∧ ∀ j, j < n → w.frozen? ⟨B, q + 0 + j, none⟩ = false := by
  obtain ⟨B', c, e, fr, h1, h2, h3, h4⟩ := hh.cells b l hl
  rw [hB] at h1
  simp at h1
  subst h1
  refine ⟨fun j hj => ?_, fun j hj => ?_⟩
  · rw [cell_of_row w B _ c e fr h2]
    rw [Array.getElem?_eq_getElem (show q + 0 + j < c.size by omega)]
    rfl
  · have := (h4 (q + 0 + j) (by omega)).2.2
    obtain ⟨f1, f2⟩ := fr
    simp only [World.frozen?, h2]
    rw [Bool.and_eq_false_iff]
    simp only [decide_eq_false_iff_not]
    simp at this
    omega
theorem CRel.ones {cs : List Val} {vs : List Value} (h : CRel Γ cs vs) : ∀ v ∈ vs, v.oneCell' = true := by
  intro v hv
  obtain ⟨i, hi, rfl⟩ := List.mem_iff_getElem.1 hv
  have := h.one i (by rw [h.len]; exact hi)
  simpa [List.getD_eq_getElem?_getD, hi] using this
theorem sd_st (n : Nat) (t : TypeId) (x y : X) (x' y' : Operand) (ho : o.op = .store t x' y') (hn : tSize P t = some n) (h0 : (n.beq 0) = false)
    (h1 : okX x x' = true) (h2 : okX y y' = true) (hs : SRel Γ σ a.tmps) (hh : HRel Γ h w N)
    (hk : stC n (ev σ x) (ev σ y) h (fun h => K (.tup []) h) = some r) (hc : Cont Γ w N K r a o.dst next) : o.wp P a w next Q := by
  unfold stC at hk
  split at hk
  · rename_i b q ex
    cases hb : (cells (ev σ y)).length.beq n with
    | false => rw [hb] at hk; cases hk
    | true =>
      rw [hb, cond_true] at hk
      have hlen := Nat.eq_of_beq_eq_true hb
      split at hk
      · rename_i h' hset
        obtain ⟨l, hl, hle, rfl⟩ := Heap.set_some hset
        obtain ⟨hne, hnt⟩ := cells_ne_tup hlen (fun e => by rw [bt e] at h0; cases h0)
        have hx := okX_sound hs h1
        rw [ex] at hx
        obtain ⟨B, e1, hB⟩ := (hx (by simp)).ptr_inv
        have hr := (okX_sound hs h2 hne).cellsR hnt
        have hsz : (a.eval y').cells.size = n := by have := hr.len; simp at this; omega
        obtain ⟨w1, w2⟩ := hh.wr (q := q) (n := (a.eval y').cells.toList.length) hB hl (by rw [Array.length_toList, hsz]; omega)
        have hrun := run_storeCells_cells (P := P) B q (a.eval y').cells.toList 0 w w1 w2 hr.ones
        refine wp_skp (w' := w.setCells B q (a.eval y').cells.toList) ?_ ?_
        · simp only [execOp, ho, Instr.storeAt, e1, Instr.sureAddr, storeVar, Sem.run_bind, Sem.run_pure, Result.andThen_ok, run_sizeOf hn, hsz, ne_eq, not_true_eq_false, if_false, hrun, Nat.add_zero]
        · exact hc _ _ _ _ Γ hk (.refl Γ) (Frame.store (hh.bllt b B hB).2 q _) (hh.store hB hl hle hr) (VRel.tup [] #[] rfl (fun i hi => absurd hi (Nat.not_lt_zero i))).u
      · cases hk
  · cases hk
end Go.AM
