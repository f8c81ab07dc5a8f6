import Derived.Test.YtfpkdeokpomocaaAMPure4
import Derived.Laws.Append
import Derived.Laws.IdiomCopy
set_option linter.constructorNameAsVariable false
set_option linter.unusedVariables false
set_option linter.unusedSimpArgs false
set_option linter.unusedVariables false
set_option linter.unusedSimpArgs false
namespace Go.AM
open Go
variable {P : Program} {N : Nat} {Γ : Gam} {h : Heap} {w : World} {σ : Slots} {a : Act} {o : GOper} {next : Act → World → Prop}
  {Q : _root_.Go.Exit → Act → World → Prop} {r : Val × Heap} {K : Val → Heap → R}
theorem HRel.blnone (hh : HRel Γ h w N) {b : Nat} (hb : h.next ≤ b) : Γ.bl b = none := by
  cases e : Γ.bl b with
  | none => rfl
  | some B => have := (hh.bllt b B e).1; omega
theorem HRel.ronone (hh : HRel Γ h w N) {B : Nat} (hb : w.heap.size ≤ B) : Γ.ro B = none := by
  cases e : Γ.ro B with
  | none => rfl
  | some x => have := (hh.rolt B x e).2; omega
theorem HRel.prnone (hh : HRel Γ h w N) {B q : Nat} (hb : w.heap.size ≤ B) : Γ.pr B q = none := by
  cases e : Γ.pr B q with
  | none => rfl
  | some x => have := World.block_lt_of_cell? w _ (hh.prok B q x e).1; simp at this; omega
theorem HRel.tknone (hh : HRel Γ h w N) {t n : Nat} (hb : h.next ≤ t) : Γ.tk t n = none := by
  cases e : Γ.tk t n with
  | none => rfl
  | some x => obtain ⟨m, hm, -⟩ := (hh.tklt t n x e).1; have := hh.lt _ _ hm; omega
theorem HRel.drew (hh : HRel Γ h w N) : HRel Γ h w.drew N :=
  ⟨hh.lt, hh.bllt, hh.rolt, hh.prok, hh.tklt, hh.cells, hh.toks, hh.maps⟩
theorem Frame.drew (Γ : Gam) (w : World) : Frame Γ Γ w w.drew := ⟨rfl, rfl, rfl, Nat.le_refl _, fun _ _ _ => rfl, fun _ _ h => h, fun _ _ _ _ => rfl⟩
theorem heap_alloc_lt (w : World) (x : Obj) {B : Nat} (hB : B < w.heap.size) : (w.alloc x).heap[B]? = w.heap[B]? := heap_alloc_old w x hB
theorem lt_of_heap {w : World} {B : Nat} {x : Obj} (h : w.heap[B]? = some x) : B < w.heap.size := by
  rcases Nat.lt_or_ge B w.heap.size with h' | h'
  · exact h'
  · rw [Array.getElem?_eq_none h'] at h; cases h
def Gam.addPr (Γ : Gam) (B : Nat) (c : Nat → Option Value) : Gam := { Γ with pr := fun x i => if x = B then c i else Γ.pr x i }
theorem Gam.addPr_le (hh : HRel Γ h w N) (c : Nat → Option Value) : Γ.Le (Γ.addPr w.heap.size c) :=
  ⟨fun _ _ h => h, fun _ _ h => h, fun B q v hv => by
    simp only [Gam.addPr]
    by_cases e : B = w.heap.size
    · subst e; rw [hh.prnone (Nat.le_refl _)] at hv; cases hv
    · rw [if_neg e]; exact hv, fun _ _ _ h => h⟩
theorem HRel.addPr (hh : HRel Γ h w N) (arr : Array Value) (e : TypeId) (fr : Nat × Nat) (c : Nat → Option Value) (hc : ∀ i v, c i = some v → arr[i]? = some v) :
    HRel (Γ.addPr w.heap.size c) h (w.alloc (.cells arr e fr)) N := by
  have hle := Gam.addPr_le hh c
  refine ⟨hh.lt, hh.bllt, fun B r hr => ?_, fun B q v hv => ?_, hh.tklt, fun b l hb => ?_, fun t n ht => ?_, hh.maps⟩
  · have := hh.rolt B r hr; exact ⟨this.1, by simp; omega⟩
  · simp only [Gam.addPr] at hv
    by_cases eB : B = w.heap.size
    · rw [if_pos eB] at hv
      subst eB
      refine ⟨?_, fun b hb => ?_⟩
      · rw [cell_of_row (w.alloc (.cells arr e fr)) w.heap.size q arr e fr (heap_alloc_new w _)]
        exact hc q v hv
      · have h1 : Γ.ro w.heap.size = some (.blk b) := hb
        rw [hh.ronone (Nat.le_refl _)] at h1; cases h1
    · rw [if_neg eB] at hv
      have := hh.prok B q v hv
      refine ⟨?_, this.2⟩
      rw [World.cell?_alloc_old w _ _ (by simpa using eB)]
      exact this.1
  · obtain ⟨B, c1, e1, fr1, h1, h2, h3, h4⟩ := hh.cells b l hb
    exact ⟨B, c1, e1, fr1, h1, by rw [heap_alloc_lt w _ (lt_of_heap h2)]; exact h2, h3, fun i hi => ⟨(h4 i hi).1.mono hle, (h4 i hi).2⟩⟩
  · obtain ⟨B, q, c1, z, arr1, e1, fr1, h1, h2, h3, h4, h5⟩ := hh.toks t n ht
    refine ⟨B, q, c1, z, arr1, e1, fr1, h1, by rw [heap_alloc_lt w _ (lt_of_heap h2)]; exact h2, h3, fun i hi => ?_, h5⟩
    simp only [Gam.addPr]
    rw [if_neg (by have := lt_of_heap h2; omega)]
    exact h4 i hi
theorem Frame.alloc (Γ : Gam) (w : World) (x : Obj) {Δ : Gam} (hr : ∀ B, B < w.heap.size → Γ.ro B = none → Δ.ro B = none)
    (hp : ∀ B q, B < w.heap.size → Γ.ro B = none → Δ.pr B q = Γ.pr B q) : Frame Γ Δ w (w.alloc x) :=
  ⟨rfl, rfl, rfl, by simp, fun B hB _ => heap_alloc_lt w x hB, hr, hp⟩
def Gam.addBl (Γ : Gam) (b B : Nat) : Gam := { Γ with bl := fun x => if x = b then some B else Γ.bl x, ro := fun x => if x = B then some (.blk b) else Γ.ro x }
theorem Gam.addBl_le (hh : HRel Γ h w N) : Γ.Le (Γ.addBl h.next w.heap.size) :=
  ⟨fun b B hb => by
    simp only [Gam.addBl]
    by_cases e : b = h.next
    · subst e; rw [hh.blnone (Nat.le_refl _)] at hb; cases hb
    · rw [if_neg e]; exact hb, fun B r hr => by
    simp only [Gam.addBl]
    by_cases e : B = w.heap.size
    · subst e; rw [hh.ronone (Nat.le_refl _)] at hr; cases hr
    · rw [if_neg e]; exact hr, fun _ _ _ h => h, fun _ _ _ h => h⟩
theorem HRel.addBl (hh : HRel Γ h w N) (hN : N ≤ w.heap.size) (arr : Array Value) (e : TypeId) (fr : Nat × Nat) (cs : List Val) (hl : cs.length ≤ arr.size)
    (hc : ∀ i, i < cs.length → VRel Γ (cs.getD i .unk) (arr.getD i undef) ∧ (arr.getD i undef).oneCell' = true ∧ ¬ (fr.1 ≤ i ∧ i < fr.2)) :
    HRel (Γ.addBl h.next w.heap.size) (h.add (.cells cs)) (w.alloc (.cells arr e fr)) N := by
  have hle := Gam.addBl_le hh
  refine ⟨fun b x hb => ?_, fun b B hb => ?_, fun B r hr => ?_, fun B q v hv => ?_, fun t n x ht => ?_, fun b l hb => ?_, fun t n ht => ?_, fun b l hb => ?_⟩
  · rw [Heap.blk_add] at hb
    rw [Heap.next_add]
    split at hb
    · omega
    · have := hh.lt b x hb; omega
  · simp only [Gam.addBl] at hb ⊢
    rw [Heap.next_add]
    by_cases e1 : b = h.next
    · rw [if_pos e1] at hb
      simp at hb
      subst hb
      exact ⟨by omega, by rw [if_pos rfl, e1]⟩
    · rw [if_neg e1] at hb
      have h1 := hh.bllt b B hb
      have h2 := (hh.rolt B _ h1.2).2
      exact ⟨by omega, by rw [if_neg (by omega)]; exact h1.2⟩
  · simp only [Gam.addBl] at hr
    by_cases e1 : B = w.heap.size
    · subst e1; exact ⟨hN, by simp⟩
    · rw [if_neg e1] at hr
      have := hh.rolt B r hr
      exact ⟨this.1, by simp; omega⟩
  · have hv' : Γ.pr B q = some v := hv
    have h1 := hh.prok B q v hv'
    have h2 := World.block_lt_of_cell? w _ h1.1
    simp at h2
    refine ⟨by rw [World.cell?_alloc_lt w _ _ h2]; exact h1.1, fun b hb => ?_⟩
    simp only [Gam.addBl] at hb
    rw [if_neg (by omega)] at hb
    exact h1.2 b hb
  · have ht' : Γ.tk t n = some x := ht
    have h1 := hh.tklt t n x ht'
    have h2 := (hh.rolt _ _ h1.2).2
    obtain ⟨m, hm, hnm⟩ := h1.1
    refine ⟨⟨m, by rw [Heap.blk_add, if_neg (by have := hh.lt _ _ hm; omega)]; exact hm, hnm⟩, ?_⟩
    simp only [Gam.addBl]
    rw [if_neg (by omega)]
    exact h1.2
  · rw [Heap.blk_add] at hb
    split at hb
    · rename_i e1
      simp at hb
      subst hb
      refine ⟨w.heap.size, arr, e, fr, by simp only [Gam.addBl]; rw [if_pos e1], heap_alloc_new w _, hl, fun i hi => ⟨(hc i hi).1.mono hle, (hc i hi).2⟩⟩
    · obtain ⟨B, c1, e1, fr1, h1, h2, h3, h4⟩ := hh.cells b l hb
      exact ⟨B, c1, e1, fr1, hle.bl _ _ h1, by rw [heap_alloc_lt w _ (lt_of_heap h2)]; exact h2, h3, fun i hi => ⟨(h4 i hi).1.mono hle, (h4 i hi).2⟩⟩
  · rw [Heap.blk_add] at ht
    split at ht
    · simp at ht
    · obtain ⟨B, q, c1, z, arr1, e1, fr1, h1, h2, h3, h4, h5⟩ := hh.toks t n ht
      exact ⟨B, q, c1, z, arr1, e1, fr1, h1, by rw [heap_alloc_lt w _ (lt_of_heap h2)]; exact h2, h3, h4, h5⟩
  · rw [Heap.blk_add] at hb
    split at hb
    · simp at hb
    · exact hh.maps b l hb
theorem Gam.addBl_frame (h : Heap) (x : Obj) : Frame Γ (Γ.addBl h.next w.heap.size) w (w.alloc x) :=
  Frame.alloc Γ w x (fun B hB hr => by simp only [Gam.addBl]; rw [if_neg (by omega)]; exact hr) fun _ _ _ _ => rfl
theorem wp_newblk {vs : Array Value} {e : TypeId} {cs : List Val} (hc : Cont Γ w N K r a o.dst next) (hh : HRel Γ h w N) (hN : N ≤ w.heap.size)
    (hx : (execOp a.eval o).run P w = .ok (.value (.pointer (some ⟨w.heap.size, 0, none⟩))) (w.alloc (.cells vs e))) (hr : CRel Γ cs vs.toList)
    (hk : K (.ptr h.next 0) (h.add (.cells cs)) = some r) : o.wp P a w next Q := by
  refine wp_val hx (hc _ _ _ _ (Γ.addBl h.next w.heap.size) hk (Gam.addBl_le hh) (Gam.addBl_frame h _)
    (hh.addBl hN vs e (0, 0) cs (by have := hr.len; simp at this; omega) fun i hi => ?_) (VRel.ptr _ _ _ (by simp [Gam.addBl])).u)
  have h1 := hr.rel i hi
  have h2 := hr.one i hi
  rw [getD_toList vs] at h1 h2
  exact ⟨h1, h2, fun e => Nat.not_lt_zero _ e.2⟩
theorem sd_alloc (cs : List Val) (t : TypeId) (ho : o.op = .alloc t) (zv : Value) (hz : tZero P t = some zv) (hzz : okCs cs zv.cells.toList = true) (hh : HRel Γ h w N) (hN : N ≤ w.heap.size)
    (hk : allocC cs h K = some r) (hc : Cont Γ w N K r a o.dst next) : o.wp P a w next Q :=
  wp_newblk (vs := zv.cells) (e := t) hc hh hN (by simp [execOp, ho, Instr.alloc, run_zero hz, newVar, newRow]) (okCs_sound hzz) hk
theorem sd_box (z : Nat) (t : TypeId) (x : X) (x' : Operand) (ho : o.op = .box t x') (hz : (z.beq 0) = false) (h1 : okX x x' = true) (hs : SRel Γ σ a.tmps) (hh : HRel Γ h w N) (hN : N ≤ w.heap.size)
    (hk : boxC z (ev σ x) h K = some r) (hc : Cont Γ w N K r a o.dst next) : o.wp P a w next Q := by
  unfold boxC at hk
  cases hb : (cells (ev σ x)).length.beq z with
  | false => rw [hb] at hk; cases hk
  | true =>
    rw [hb, cond_true] at hk
    obtain ⟨hne, hnt⟩ := cells_ne_tup (Nat.eq_of_beq_eq_true hb) (fun e => by rw [bt e] at hz; cases hz)
    exact wp_newblk (vs := (a.eval x').cells) (e := t) hc hh hN (by simp [execOp, ho, Instr.box, newVar, newRow]) ((okX_sound hs h1 hne).cellsR hnt) hk
theorem Heap.at_some {b q n : Nat} {cs : List Val} (hk : h.at b q n = some cs) : ∃ l, h.blk b = some (.cells l) ∧ cs = (l.drop q).take n ∧ q + n ≤ l.length := by
  unfold Heap.at at hk
  split at hk
  · rename_i l hl
    obtain ⟨l1, h1, h2⟩ := Option.bind_eq_some_iff.1 hk
    obtain ⟨rfl, h3⟩ := dropN_some h1
    obtain ⟨rfl, h4⟩ := takeN_some h2
    exact ⟨l, hl, rfl, by simp at h4; omega⟩
  · cases hk
def cellsAt (h : Heap) (p : Val) (n : Nat) : Option (List Val) :=
  match p with
  | .ptr b q => h.at b q n
  | .ep cs => takeN n cs
  | _ => none
theorem ld_cells (hh : HRel Γ h w N) {p : Val} {x : Value} (hp : VRel Γ p x) {n : Nat} {cs : List Val}
    (hk : cellsAt h p n = some cs) :
    ∃ B q vs, x = .pointer (some ⟨B, q, none⟩) ∧ CRel Γ cs vs ∧ cs.length = n ∧ ∀ j v, vs[j]? = some v → w.cell? ⟨B, q + j, none⟩ = some v := by
  cases hp with
  | ptr b q B hB =>
    obtain ⟨l, hl, rfl, hle⟩ := Heap.at_some hk
    obtain ⟨B', c, e, fr, h1, h2, h3, h4⟩ := hh.cells b l hl
    rw [hB] at h1
    simp at h1
    subst h1
    have hlen : ((l.drop q).take n).length = n := by simp; omega
    refine ⟨B, q, (List.range n).map fun i => c.getD (q + i) undef, rfl, ⟨by simp; omega, fun i hi => ?_, fun i hi => ?_⟩, hlen, fun j v hj => ?_⟩
    · have hi' : i < n := by omega
      have := (h4 (q + i) (by omega)).2.1
      simpa [List.getD_eq_getElem?_getD, hi'] using this
    · have hi' : i < n := by omega
      have := (h4 (q + i) (by omega)).1
      simpa [List.getD_eq_getElem?_getD, hi', List.getElem?_take, List.getElem?_drop] using this
    · have hjn : j < n := by
        rcases Nat.lt_or_ge j n with h | h
        · exact h
        · rw [List.getElem?_eq_none (by simpa using h)] at hj; cases hj
      rw [cell_of_row w B (q + j) c e fr h2]
      simp [hjn] at hj
      rw [← hj]
      have : q + j < c.size := by omega
      simp [this]
  | ep cs0 B q f h1 h2 =>
    obtain ⟨rfl, hle⟩ := takeN_some hk
    have hlen : (cs0.take n).length = n := by simp; omega
    refine ⟨B, q, (List.range n).map f, rfl, ⟨by simp; omega, fun i hi => ?_, fun i hi => ?_⟩, hlen, fun j v hj => ?_⟩
    · have hi' : i < n := by omega
      have := (h1 i (by omega)).2
      simpa [List.getD_eq_getElem?_getD, hi'] using this
    · have hi' : i < n := by omega
      have := h2 i (by omega)
      simpa [List.getD_eq_getElem?_getD, hi', List.getElem?_take] using this
    · have hjn : j < n := by
        rcases Nat.lt_or_ge j n with h | h
        · exact h
        · rw [List.getElem?_eq_none (by simpa using h)] at hj; cases hj
      simp [hjn] at hj
      rw [← hj]
      exact (hh.prok B (q + j) _ (h1 j (by omega)).1).1
  | _ => cases hk
theorem run_loadVar {t : TypeId} {g : Bool} {n : Nat} (hg : tAgg P t = some g) (hn : tSize P t = some n) (hgn : g = true ∨ n = 1) {B q : Nat} {vs : List Value} (hl : vs.length = n)
    (hc : ∀ j v, vs[j]? = some v → w.cell? ⟨B, q + j, none⟩ = some v) : (loadVar t ⟨B, q, none⟩).run P w = .ok (if g then .agg vs.toArray else vs.getD 0 undef) w := by
  simp only [loadVar, Sem.run_bind, run_isAgg hg, Result.andThen_ok]
  cases g with
  | true =>
    have := run_loadCells_list (P := P) w ⟨B, q, none⟩ vs (fun j v hj => by rw [addr_add]; exact hc j v hj)
    rw [hl] at this
    simp [run_sizeOf hn, this]
  | false =>
    have h1 : n = 1 := by simpa using hgn
    subst h1
    match vs, hl with
    | [v], _ =>
      have := hc 0 v rfl
      simp at this
      simp [this]
theorem ldC_some {g : Bool} {n : Nat} {p : Val} {K' : Val → R} (hk : ldC g n p h K' = some r) :
    ∃ cs, cellsAt h p n = some cs ∧ K' (mk g cs) = some r := by
  unfold ldC at hk
  split at hk
  · split at hk
    · rename_i cs e; exact ⟨cs, e, hk⟩
    · cases hk
  · split at hk
    · rename_i cs e; exact ⟨cs, e, hk⟩
    · cases hk
  · cases hk
theorem sd_ld (g : Bool) (n : Nat) (t : TypeId) (x : X) (x' : Operand) (ho : o.op = .load t x') (hg : tAgg P t = some g) (hn : tSize P t = some n) (hgn : g = true ∨ n = 1)
    (h1 : okX x x' = true) (hs : SRel Γ σ a.tmps) (hh : HRel Γ h w N)
    (hk : ldC g n (ev σ x) h (fun v => K v h) = some r) (hc : Cont Γ w N K r a o.dst next) : o.wp P a w next Q := by
  obtain ⟨cs, h2, h3⟩ := ldC_some hk
  have hne : ev σ x ≠ .unk := fun e => by rw [e] at h2; cases h2
  obtain ⟨B, q, vs, e1, hr, hlen, hcell⟩ := ld_cells hh (okX_sound hs h1 hne) h2
  obtain ⟨y, hy, hyv⟩ := hr.val (g := g) (by rw [hlen]; exact hgn)
  refine wp_pure hc hh (x := y) ?_ hy h3
  have := run_loadVar (P := P) (w := w) hg hn hgn (by rw [← hr.len, hlen]) hcell
  simp [execOp, ho, Instr.loadAt, e1, Instr.sureAddr, this, hyv]
end Go.AM
