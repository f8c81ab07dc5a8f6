import Derived.Test.YtfpkdeokpomocaaAMApp3
set_option linter.constructorNameAsVariable false
set_option linter.unusedVariables false
set_option linter.unusedSimpArgs false
set_option linter.unusedVariables false
set_option linter.unusedSimpArgs false
namespace Go.AM
open Go
variable {P : Program} {N : Nat} {Γ : Gam} {h : Heap} {w : World} {σ : Slots} {a : Act} {o : GOper} {next : Act → World → Prop}
  {Q : _root_.Go.Exit → Act → World → Prop} {r : Val × Heap} {K : Val → Heap → R}
theorem sd_cpy (z : Nat) (t0 t1 e : TypeId) (x y : X) (x' y' : Operand) (ho : o.op = .call { callee := .builtin .copy, args := #[x', y'], argTypes := #[t0, t1] })
    (ht : tSl P t0 = some e) (hz : tSize P e = some z) (h0 : (z.beq 0) = false)
    (h1 : okX x x' = true) (h2 : okX y y' = true) (hs : SRel Γ σ a.tmps) (hh : HRel Γ h w N)
    (hk : cpyC z (ev σ x) (ev σ y) h K = some r) (hc : Cont Γ w N K r a o.dst next) : o.wp P a w next Q := by
  have hz0 : z ≠ 0 := fun e => by rw [bt e] at h0; cases h0
  unfold cpyC at hk
  split at hk
  · rename_i b q n c z' xs ex hsrc
    cases hb : z.beq z' with
    | false => rw [hb] at hk; cases hk
    | true =>
      rw [hb, cond_true] at hk
      have := Nat.eq_of_beq_eq_true hb
      subst this
      split at hk
      · rename_i h' hset
        obtain ⟨l, hl, hle, rfl⟩ := Heap.set_some hset
        have hx := okX_sound hs h1
        rw [ex] at hx
        obtain ⟨B, c', e1, hB, -⟩ := (hx (by simp)).ms_inv
        have hg : (!z.beq 1) = true ∨ z = 1 := by
          cases hz1 : z.beq 1 with
          | true => exact .inr (Nat.eq_of_beq_eq_true hz1)
          | false => exact .inl rfl
        obtain ⟨vs, hlen, hfc, hrn, hzx⟩ := src_cells (P := P) hh hz0 hg (okX_sound hs h2) hsrc
        have hmin : xs.length.min n ≤ xs.length := Nat.min_le_left _ _
        have hf := hfc w rfl (xs.length.min n) hmin
        have hfl : (xs.take n).flatMap cells = (xs.flatMap cells).take (xs.length.min n * z) := by
          rw [← flat_take _ hzx]
          congr 1
          rcases Nat.le_total xs.length n with h | h
          · rw [List.take_of_length_le h, show xs.length.min n = xs.length from Nat.min_eq_left h, List.take_length]
          · rw [show xs.length.min n = n from Nat.min_eq_right h]
        rw [hfl] at hle hk
        have hr : CRel Γ ((xs.flatMap cells).take (xs.length.min n * z)) (vs.take (xs.length.min n * z)) := hrn.take _
        obtain ⟨w1, w2⟩ := hh.wr (q := q) (n := (vs.take (xs.length.min n * z)).length) hB hl (by rw [← hr.len]; exact hle)
        have hrun := run_storeCells_cells (P := P) B q (vs.take (xs.length.min n * z)) 0 w w1 w2 hr.ones
        refine wp_val (x := .int .i64 (xs.length.min n)) (w' := w.setCells B q (vs.take (xs.length.min n * z))) ?_ ?_
        · simp only [execOp, ho, resolve, invoke, builtin, Builtin.copy_, Sem.run_bind, Sem.run_pure, Result.andThen_ok, List.map_toArray, List.map_cons, List.map_nil, e1]
          simp only [List.getElem?_toArray, List.getElem?_cons_zero, List.getElem?_cons_succ, Sem.run_bind, run_underlying (tSl_some ht), Result.andThen_ok, hlen, run_sizeOf hz, hf, hrun, Sem.run_pure, Nat.add_zero, goInt]
        · exact hc _ _ _ _ Γ hk (.refl Γ) (Frame.store (hh.bllt b B hB).2 q _) (hh.store hB hl hle hr) (VRel.int _ _).u
      · cases hk
  · cases hk
theorem sd_cvb (s t e : TypeId) (x : X) (x' : Operand) (ho : o.op = .convert s t x') (hs' : tStr P s = true) (ht : tSl P t = some e) (he : tInt P e = some .u8) (h1 : okX x x' = true)
    (hs : SRel Γ σ a.tmps) (hh : HRel Γ h w N) (hN : N ≤ w.heap.size) (hk : cvbC (ev σ x) h K = some r) (hc : Cont Γ w N K r a o.dst next) : o.wp P a w next Q := by
  unfold cvbC at hk
  split at hk
  · rename_i l ex
    obtain ⟨s1, e1, rfl⟩ := os_ (okX_sound hs h1) ex
    have hsz : s1.data.toList.length = s1.size := Array.length_toList
    generalize hcap : (Question.appendCap s1.size 0 e).cut (w.tape w.drawn (.appendCap s1.size 0 e)) = cap
    have hge : s1.size ≤ cap := by rw [← hcap]; exact Nat.le_add_right _ _
    let arr : Array Value := (s1.data.map fun b => Value.int .u8 b.toNat) ++ Array.replicate (cap - s1.size) (.int .u8 0)
    have harr : arr.size = cap := by simp [arr]; have : s1.data.size = s1.size := rfl; omega
    have hrun : (execOp a.eval o).run P w = .ok (.value (.slice (some ⟨w.heap.size, 0, none⟩) s1.size cap)) ((w.drew.alloc (.cells arr e)).freeze ⟨w.heap.size, cap, none⟩ 1) := by
      have hshape : (w.drew.alloc (.cells arr e)).shape? w.heap.size = some (e, cap) := by
        have : (w.drew.alloc (.cells arr e)).heap[w.heap.size]? = some (.cells arr e) := heap_alloc_new w.drew _
        simp only [World.shape?, this, harr]
      simp only [execOp, ho, convert, Sem.run_bind, run_underlying (tStr_some hs'), run_underlying (tSl_some ht), run_underlying (tInt_some he), Result.andThen_ok, e1, Conv.stringToBytes, run_choose, Question.forced, Bool.false_eq_true, if_false, hcap, newRow, run_newObj, Sem.run_pure, World.drew_eq, World.alloc_eq, markStringish, run_shape]
      have hsd : w.drew.heap.size = w.heap.size := rfl
      rw [hsd, show (w.drew.alloc (.cells ((s1.data.map fun b => Value.int .u8 b.toNat) ++ Array.replicate (cap - s1.size) (.int .u8 0)) e)).shape? w.heap.size = some (e, cap) from hshape]
      rfl
    have hw' : (w.drew.alloc (.cells arr e)).freeze ⟨w.heap.size, cap, none⟩ 1 = w.drew.alloc (.cells arr e (cap, cap + 1)) := by
      rw [World.freeze, if_neg (by decide)]
      simp only [World.alloc]
      congr 1
      apply Array.ext
      · simp
      · intro i h1 h2
        simp at h1 h2
        rcases Nat.lt_or_ge i w.heap.size with hi | hi
        · rw [Array.getElem_modify]
          have hsd : w.drew.heap = w.heap := rfl
          simp only [hsd, Array.getElem_push, hi, dif_pos]
          rw [if_neg (by omega)]
        · have : i = w.heap.size := by have hsd : w.drew.heap.size = w.heap.size := rfl; omega
          subst this
          rw [Array.getElem_modify]
          have hsd : w.drew.heap = w.heap := rfl
          simp [hsd]
    rw [hw'] at hrun
    refine wp_val hrun (hc _ _ _ _ (Γ.addBl h.next w.drew.heap.size) hk (Gam.addBl_le hh.drew) ((Frame.drew Γ w).trans (Gam.addBl_frame h _))
      (hh.drew.addBl (by exact hN) arr e (cap, cap + 1) (ofBytes s1.data.toList) (by simp only [ofBytes, List.length_map]; omega) fun i hi => ?_) (VRel.u ?_))
    · have hi' : i < s1.data.size := by simpa [ofBytes] using hi
      have hi2 : i < s1.size := hi'
      have e2 : arr.getD i undef = .int .u8 (s1.data[i]'hi').toNat := by
        simp only [arr, Array.getD_eq_getD_getElem?]
        rw [Array.getElem?_append_left (by simpa using hi'), Array.getElem?_map, Array.getElem?_eq_getElem hi']
        rfl
      have e3 : (ofBytes s1.data.toList).getD i .unk = .int .u8 (s1.data[i]'hi').toNat := by
        rw [ofBytes, List.getD_eq_getElem?_getD, List.getElem?_map, Array.getElem?_toList, Array.getElem?_eq_getElem hi']
        rfl
      rw [e2, e3]
      exact ⟨.int _ _, rfl, fun hf => by have := hf.1; simp at this; omega⟩
    · rw [hsz]
      exact .ms _ _ _ _ _ _ _ (by simp only [Gam.addBl, if_pos]; rfl) hge
  · cases hk
end Go.AM
