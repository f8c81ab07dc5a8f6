import Derived.Test.YtfpkdeokpomocaaAMSl3
set_option linter.constructorNameAsVariable false
set_option linter.unusedVariables false
set_option linter.unusedSimpArgs false
set_option linter.unusedVariables false
set_option linter.unusedSimpArgs false
namespace Go.AM
open Go
variable {P : Program} {N : Nat} {Γ : Gam} {h : Heap} {w : World} {σ : Slots} {a : Act} {o : GOper} {next : Act → World → Prop}
  {Q : _root_.Go.Exit → Act → World → Prop} {r : Val × Heap} {K : Val → Heap → R}
theorem elems_some {g : Bool} {z : Nat} (h0 : z ≠ 0) (hg : g = true ∨ z = 1) : ∀ {n : Nat} {cs xs : List Val}, elems g z n cs = some xs → (∀ c ∈ cs, cells c = [c]) → xs.flatMap cells = cs ∧ xs.length = n ∧ ∀ x ∈ xs, (cells x).length = z
  | 0, cs, xs, h, _ => by
    cases cs with
    | nil => simp [elems] at h; subst h; simp
    | cons c cs => simp [elems] at h
  | n + 1, cs, xs, h, h1 => by
    simp only [elems] at h
    split at h
    · rename_i a r ha hr
      obtain ⟨rfl, hl⟩ := takeN_some ha
      obtain ⟨rfl, -⟩ := dropN_some hr
      obtain ⟨ys, hy, rfl⟩ := Option.map_eq_some_iff.1 h
      obtain ⟨g1, g2, g3⟩ := elems_some h0 hg hy (fun c hc => h1 c (List.mem_of_mem_drop hc))
      have hc : cells (mk g (cs.take z)) = cs.take z := by
        cases g with
        | true => rfl
        | false =>
          have hz1 : z = 1 := by simpa using hg
          subst hz1
          match cs, hl with
          | c :: cs, _ => exact h1 c (by simp)
      refine ⟨by rw [List.flatMap_cons, g1, hc, List.take_append_drop], by simp [g2], fun x hx => ?_⟩
      rcases List.mem_cons.1 hx with rfl | hx
      · rw [hc, List.length_take]; omega
      · exact g3 x hx
    · cases h
theorem VRel.one {c : Val} {v : Value} (h : VRel Γ c v) (h1 : v.oneCell' = true) : cells c = [c] := by
  cases h <;> first | rfl | (simp [Value.oneCell'] at h1; done)
theorem CRel.singles {cs : List Val} {vs : List Value} (h : CRel Γ cs vs) : ∀ c ∈ cs, cells c = [c] := by
  intro c hc
  obtain ⟨i, hi, rfl⟩ := List.mem_iff_getElem.1 hc
  have h1 := h.rel i hi
  have h2 := h.one i hi
  have e : cs.getD i .unk = cs[i] := by rw [List.getD_eq_getElem?_getD, List.getElem?_eq_getElem hi]; rfl
  rw [e] at h1
  exact h1.one h2
theorem ofBytes_rel (s : ByteArray) : CRel Γ (ofBytes s.data.toList) ((s.extract 0 s.size).data.map fun b => Value.int .u8 b.toNat).toList := by
  have e : (s.extract 0 s.size).data = s.data := by rw [ByteArray.data_extract]; exact Array.extract_size
  rw [e, Array.toList_map]
  unfold ofBytes
  induction s.data.toList with
  | nil => exact CRel.nil Γ
  | cons b l ih => exact .cons (.int _ _) rfl ih
theorem take_len {vs : List Value} {m k z : Nat} (h : vs.length = m * z) (hk : k ≤ m) : (vs.take (k * z)).length = k * z := by
  have := Nat.mul_le_mul_right z hk
  rw [List.length_take]; omega
theorem take_get {vs : List Value} {j n : Nat} {v : Value} (h : (vs.take n)[j]? = some v) : vs[j]? = some v := by
  rw [List.getElem?_take] at h
  split at h
  · exact h
  · cases h
theorem src_cells (hh : HRel Γ h w N) {g : Bool} {z : Nat} (h0 : z ≠ 0) (hg : g = true ∨ z = 1) {x : Val} {X : Value} (hx : URel Γ x X) {xs : List Val} (hk : source g z x h = some xs) :
    ∃ vs : List Value, (Builtin.lenOf X).run P w = .ok xs.length w ∧ (∀ w1 : World, w1.heap = w.heap → ∀ k, k ≤ xs.length → (Builtin.firstCells z k X).run P w1 = .ok (vs.take (k * z)).toArray w1) ∧ CRel Γ (xs.flatMap cells) vs ∧ ∀ y ∈ xs, (cells y).length = z := by
  have cellw : ∀ {w1 : World} {ad : Addr}, w1.heap = w.heap → w1.cell? ad = w.cell? ad := fun h => by simp [World.cell?, h]
  unfold source at hk
  split at hk
  · rename_i u z' l
    cases hzz : z.beq z' with
    | false => rw [hzz] at hk; cases hk
    | true =>
      rw [hzz, cond_true] at hk
      have := Nat.eq_of_beq_eq_true hzz
      subst this
      simp at hk
      subst hk
      obtain ⟨ad, c, vs, rfl, hr, hz, had⟩ := sl_cells hh (hx (by simp))
      refine ⟨vs, rfl, fun w1 hw1 k hk => ?_, hr, hz⟩
      rcases had with ⟨rfl, rfl⟩ | ⟨ad', rfl, hcell⟩
      · simp [Builtin.firstCells]
      · exact run_firstCells_some w1 z k ad' _ _ (vs.take (k * z)) (take_len (by rw [← hr.len, flat_len hz]) hk) (fun j v hj => by rw [cellw hw1]; exact hcell j v (take_get hj))
  · rename_i b q n c z'
    cases hzz : z.beq z' with
    | false => rw [hzz] at hk; cases hk
    | true =>
      rw [hzz, cond_true] at hk
      have := Nat.eq_of_beq_eq_true hzz
      subst this
      obtain ⟨cs, hcs, hel⟩ := Option.bind_eq_some_iff.1 hk
      obtain ⟨B, c', rfl, hB, -⟩ := (hx (by simp)).ms_inv
      obtain ⟨B', q', vs, e2, hr, hlen, hcell⟩ := ld_cells hh (VRel.ptr (Γ := Γ) b q B hB) (n := n * z) (cs := cs) hcs
      simp at e2
      obtain ⟨rfl, rfl⟩ := e2
      obtain ⟨g1, g2, g3⟩ := elems_some h0 hg hel hr.singles
      refine ⟨vs, by rw [g2]; rfl, fun w1 hw1 k hk => ?_, by rw [g1]; exact hr, g3⟩
      rw [g2] at hk
      exact run_firstCells_some w1 z k ⟨B, q, none⟩ _ _ (vs.take (k * z)) (take_len (by rw [← hr.len, hlen]) hk) (fun j v hj => by rw [addr_add, cellw hw1]; exact hcell j v (take_get hj))
  · rename_i s
    obtain ⟨s1, rfl, rfl⟩ := os_ hx rfl
    cases hzb : z.beq 1 with
    | false => rw [hzb] at hk; cases hk
    | true =>
    rw [hzb, cond_true] at hk
    simp at hk
    subst hk
    have hz1 := Nat.eq_of_beq_eq_true hzb
    subst hz1
    have hl : (ofBytes s1.data.toList).length = s1.size := by unfold ofBytes; rw [List.length_map, Array.length_toList]; rfl
    have hf : (ofBytes s1.data.toList).flatMap cells = ofBytes s1.data.toList := by
      unfold ofBytes
      induction s1.data.toList with
      | nil => rfl
      | cons b l ih => simp only [List.map_cons, List.flatMap_cons, ih]; rfl
    refine ⟨_, by rw [hl]; rfl, fun w1 _ k hk => ?_, by rw [hf]; exact ofBytes_rel s1, fun y hy => ?_⟩
    · rw [hl] at hk
      have e1 : ((s1.extract 0 k).data.map fun b => Value.int .u8 b.toNat) = ((((s1.extract 0 s1.size).data.map fun b => Value.int .u8 b.toNat).toList).take (k * 1)).toArray := by
        apply Array.ext'
        have e2 : (s1.extract 0 s1.size).data = s1.data := by rw [ByteArray.data_extract]; exact Array.extract_size
        rw [e2, Array.toList_map, ByteArray.data_extract, Array.toList_extract, List.extract_eq_take_drop]
        simp [List.map_take]
      rw [← e1]; rfl
    · unfold ofBytes at hy
      obtain ⟨b, -, rfl⟩ := List.mem_map.1 hy
      rfl
  · cases hk
end Go.AM
