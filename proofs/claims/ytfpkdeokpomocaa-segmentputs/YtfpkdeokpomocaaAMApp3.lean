import Derived.Test.YtfpkdeokpomocaaAMApp2
set_option linter.constructorNameAsVariable false
set_option linter.unusedVariables false
set_option linter.unusedSimpArgs false
set_option linter.unusedVariables false
set_option linter.unusedSimpArgs false
namespace Go.AM
open Go
variable {P : Program} {N : Nat} {Γ : Gam} {h : Heap} {w : World} {σ : Slots} {a : Act} {o : GOper} {next : Act → World → Prop}
  {Q : _root_.Go.Exit → Act → World → Prop} {r : Val × Heap} {K : Val → Heap → R}
def tNoInt (P : Program) (t : TypeId) : Bool := tStr P t || (tSl P t).isSome
theorem tNoInt_some {t : TypeId} (h : tNoInt P t = true) : (∀ w, (underlying t).run P w = .ok .string w) ∨ ∃ e, ∀ w, (underlying t).run P w = .ok (.slice e) w := by
  unfold tNoInt at h
  rcases Bool.or_eq_true _ _ ▸ h with h | h
  · exact .inl fun w => run_underlying (tStr_some h) w
  · obtain ⟨e, he⟩ := Option.isSome_iff_exists.1 h
    exact .inr ⟨e, fun w => run_underlying (tSl_some he) w⟩
theorem run_app_fit {t0 t1 ty e : TypeId} {z sLen sCap n : Nat} {base : Option Addr} {X : Value} {vs : List Value} {w' : World} (ht : tSl P t0 = some e) (hu : tNoInt P t1 = true) (hz : tSize P e = some z)
    (hl : (Builtin.lenOf X).run P w = .ok n w) (hf : (Builtin.firstCells z n X).run P w = .ok vs.toArray w) (hfit : sLen + n ≤ sCap)
    (hst : (match base with | some a => (storeCells (a.add (sLen * z)) vs).run P w | none => .ok () w) = .ok () w') :
    (Builtin.append_ #[t0, t1] ty #[.slice base sLen sCap, X]).run P w = .ok (.slice base (sLen + n) sCap) w' := by
  have hu' := run_underlying (tSl_some ht) w
  have hs' := run_sizeOf hz w
  rcases tNoInt_some hu with hd | ⟨e1, hd⟩
  all_goals
    cases base with
    | none =>
      simp at hst
      subst hst
      simp [Builtin.append_, hu', hs', hd, hl, hf, hfit]
    | some a =>
      simp at hst
      simp [Builtin.append_, hu', hs', hd, hl, hf, hfit, hst]
theorem run_app_grow {t0 t1 ty e : TypeId} {z sLen sCap n : Nat} {base : Option Addr} {X : Value} {olds vs : List Value} {zv : Value} (ht : tSl P t0 = some e) (hu : tNoInt P t1 = true) (hz : tSize P e = some z) (hzv : tZero P e = some zv)
    (hby : P.bytesOf e ≤ 65536) (hroom : sLen + n ≤ 2147483648)
    (hl : (Builtin.lenOf X).run P w = .ok n w) (hf : (Builtin.firstCells z n X).run P w.drew = .ok vs.toArray w.drew) (ho : (Builtin.firstCells z sLen (.slice base sLen sCap)).run P w.drew = .ok olds.toArray w.drew) (hg : sCap < sLen + n) :
    (Builtin.append_ #[t0, t1] ty #[.slice base sLen sCap, X]).run P w = .ok (.slice (some ⟨w.heap.size, 0, none⟩) (sLen + n) (grownCap w (sLen + n) sCap e))
      (w.drew.alloc (.cells (olds.toArray ++ (vs.toArray ++ Builtin.zeroCells zv.cells (grownCap w (sLen + n) sCap e - (sLen + n)))) e)) := by
  obtain ⟨ie, hie, hies, hiez⟩ := infos hz hzv
  have hbb : ie.bytes ≤ 65536 := by simpa [Program.bytesOf, hie] using hby
  have hn : ¬ (sLen + n ≤ sCap) := by omega
  have h63' : ¬ (9223372036854775807 < ((sLen : Int) + (n : Int))) := by omega
  have hm : (sLen + n) * ie.bytes ≤ 140737488355328 := by
    have := Nat.mul_le_mul hroom hbb
    omega
  have h48' : ¬ (281474976710656 < Builtin.nextslicecap (sLen + n) sCap * ie.bytes) := by
    have := growslice_fits hg hm
    omega
  have hu' := run_underlying (tSl_some ht) w
  subst hies
  rcases tNoInt_some hu with hd | ⟨e1, hd⟩
  all_goals
    simp [Builtin.append_, hu', sizeOf, typeInfo, zeroValue, hie, hiez, hd, hl, hn, h63', h48', Question.forced, hf, ho, newRow, grownCap]
theorem grownCap_ge (w : World) (need old : Nat) (e : TypeId) : need ≤ grownCap w need old e := by
  exact Nat.le_add_right _ _
theorem wp_growTk {t0 t1 ty e : TypeId} {z : Nat} {X : Value} {zv : Value} {u : Own} {l xs : List Val} {t sCap : Nat} {base : Option Addr} {olds vs : List Value} (hrunop : ∀ w, execOp a.eval o = execOp a.eval o → (execOp a.eval o).run P w = ((Builtin.append_ #[t0, t1] ty #[.slice base l.length sCap, X]).run P w).andThen fun v w' => .ok (.value v) w')
    (ht : tSl P t0 = some e) (hu : tNoInt P t1 = true) (hz : tSize P e = some z) (h0 : z ≠ 0) (hzv : tZero P e = some zv) (hzc : zv.cells.size = z) (hby : P.bytesOf e ≤ 65536) (hroom : l.length + xs.length ≤ 2147483648)
    (hl : (Builtin.lenOf X).run P w = .ok xs.length w) (hf : (Builtin.firstCells z xs.length X).run P w.drew = .ok vs.toArray w.drew) (hold : (Builtin.firstCells z l.length (.slice base l.length sCap)).run P w.drew = .ok olds.toArray w.drew)
    (hg : sCap < l.length + xs.length) (hro : CRel Γ (l.flatMap cells) olds) (hrn : CRel Γ (xs.flatMap cells) vs) (hzl : ∀ y ∈ l, (cells y).length = z) (hzx : ∀ y ∈ xs, (cells y).length = z)
    (hh : HRel Γ h w N) (hN : N ≤ w.heap.size) (htok : t = h.next ∨ ∃ m, h.blk t = some (.tok m) ∧ m < l.length + xs.length)
    (hk : K (.sl (.tok t) z (l ++ xs)) (h.setTok t (l.length + xs.length)) = some r) (hc : Cont Γ w N K r a o.dst next) : o.wp P a w next Q := by
  have hrun := run_app_grow (ty := ty) (P := P) (w := w) ht hu hz hzv hby hroom hl hf hold hg
  have hge := grownCap_ge w (l.length + xs.length) sCap e
  generalize hcap : grownCap w (l.length + xs.length) sCap e = cap at *
  generalize harr : (olds.toArray ++ (vs.toArray ++ Builtin.zeroCells zv.cells (cap - (l.length + xs.length)))) = arr at *
  have hol : olds.length = l.length * z := by rw [← hro.len, flat_len hzl]
  have hvl : vs.length = xs.length * z := by rw [← hrn.len, flat_len hzx]
  have harrs : arr.size = cap * z := by
    rw [← harr]
    simp [Builtin.zeroCells, hol, hvl, hzc]
    rw [← Nat.add_mul, ← Nat.add_mul]
    congr 1
    omega
  have hnew := hh.drew.newTk (w := w.drew) (by exact hN) (t := t) (n := l.length + xs.length) (c := cap) (z := z) htok arr e (by omega) hge
  have htn : Γ.tk t (l.length + xs.length) = none := by
    rcases htok with rfl | ⟨m, hm, hmn⟩
    · exact hh.tknone (Nat.le_refl _)
    · cases e1 : Γ.tk t (l.length + xs.length) with
      | none => rfl
      | some x =>
        obtain ⟨m', hm', hle⟩ := (hh.tklt t _ x e1).1
        rw [hm] at hm'
        simp at hm'
        omega
  have hle := Gam.newTk_le hh.drew (c := cap) (z := z) (f := fun i => if i < (l.length + xs.length) * z then arr[i]? else none) htn
  refine wp_val (x := .slice (some ⟨w.heap.size, 0, none⟩) (l.length + xs.length) cap) (w' := w.drew.alloc (.cells arr e)) ?_ (hc _ _ _ _ _ hk hle ((Frame.drew Γ w).trans (Frame.alloc Γ w.drew _ (fun B hB hr => ?_) fun B i hB hr => ?_)) hnew (VRel.u ?_))
  · rw [hrunop w rfl, hrun]
    rfl
  · simp only [Gam.newTk]
    rw [if_neg (by have : w.drew.heap.size = w.heap.size := rfl
                   omega)]
    exact hr
  · simp only [Gam.newTk]
    rw [if_neg (by have : w.drew.heap.size = w.heap.size := rfl
                   omega)]
  · have hfl : (l ++ xs).flatMap cells = l.flatMap cells ++ xs.flatMap cells := List.flatMap_append
    suffices hkey : VRel (Γ.newTk t (l.length + xs.length) w.drew.heap.size cap z fun i => if i < (l.length + xs.length) * z then arr[i]? else none) (.sl (.tok t) z (l ++ xs)) (.slice (some ⟨w.heap.size, 0, none⟩) (l ++ xs).length cap) by
      rw [List.length_append] at hkey; exact hkey
    refine VRel.sl_of (vs := olds ++ vs) ⟨?_, ?_⟩ (by rw [List.length_append]; exact hge) (fun y hy => ?_) (fun i v hv => ?_) ?_
    · rw [List.length_append]; omega
    · rw [List.length_append]; simp only [Gam.newTk, and_self, if_true]; rfl
    · rcases List.mem_append.1 hy with h | h
      · exact hzl y h
      · exact hzx y h
    · simp only [Gam.newTk, Nat.zero_add]
      have hi : i < (olds ++ vs).length := by
        rcases Nat.lt_or_ge i (olds ++ vs).length with h | h
        · exact h
        · rw [List.getElem?_eq_none h] at hv; cases hv
      have hi2 : i < (l.length + xs.length) * z := by rw [List.length_append, hol, hvl] at hi; rw [Nat.add_mul]; exact hi
      rw [if_pos (show w.heap.size = w.drew.heap.size from rfl), if_pos hi2, ← harr]
      rw [← Array.getElem?_toList]
      simp only [Array.toList_append]
      rw [← List.append_assoc, List.getElem?_append_left hi]
      exact hv
    · rw [hfl]
      exact (hro.append hrn).mono hle
theorem sd_app (g : Bool) (z : Nat) (t0 t1 e : TypeId) (x y : X) (x' y' : Operand) (ho : o.op = .call { callee := .builtin .append, args := #[x', y'], argTypes := #[t0, t1] })
    (ht : tSl P t0 = some e) (hu : tNoInt P t1 = true) (hz : tSize P e = some z) (h0 : (z.beq 0) = false) (hg : g = true ∨ z = 1) (zv : Value) (hzv : tZero P e = some zv) (hzc : zv.cells.size = z) (hby : P.bytesOf e ≤ 65536)
    (h1 : okX x x' = true) (h2 : okX y y' = true) (hs : SRel Γ σ a.tmps) (hh : HRel Γ h w N) (hN : N ≤ w.heap.size)
    (hk : appC g z (ev σ x) (ev σ y) h K = some r) (hc : Cont Γ w N K r a o.dst next) : o.wp P a w next Q := by
  have hz0 : z ≠ 0 := fun e => by rw [bt e] at h0; cases h0
  unfold appC at hk
  split at hk
  · rename_i u z' l xs ex hsrc
    cases hb : (z.beq z' && decide (l.length + xs.length ≤ room)) with
    | false => rw [hb] at hk; cases hk
    | true =>
      rw [hb, cond_true] at hk
      simp only [Bool.and_eq_true, decide_eq_true_eq] at hb
      obtain ⟨hzz, hroom⟩ := hb
      have := Nat.eq_of_beq_eq_true hzz
      subst this
      have hx := okX_sound hs h1
      rw [ex] at hx
      have hx' := hx (by simp)
      obtain ⟨vs, hlen, hfc0, hrn, hzx⟩ := src_cells (P := P) hh hz0 hg (okX_sound hs h2) hsrc
      have hfc : ∀ w1 : World, w1.heap = w.heap → (Builtin.firstCells z xs.length (a.eval y')).run P w1 = .ok vs.toArray w1 := fun w1 hw1 => by
        have := hfc0 w1 hw1 xs.length (Nat.le_refl _)
        rwa [List.take_of_length_le (by rw [← hrn.len, flat_len hzx]; exact Nat.le_refl _)] at this
      clear hfc0
      obtain ⟨base, sCap, e1⟩ := hx'.sl_len
      have hrunop : ∀ w, (execOp a.eval o).run P w = ((Builtin.append_ #[t0, t1] o.type #[.slice base l.length sCap, a.eval y']).run P w).andThen fun v w' => .ok (.value v) w' := by
        intro w
        simp [execOp, ho, resolve, invoke, builtin, e1]
      obtain ⟨base', sCap', olds, e2, hro, hzl, hold⟩ := sl_cells hh hx'
      rw [e1] at e2
      simp at e2
      obtain ⟨rfl, rfl⟩ := e2
      have holdrun : (Builtin.firstCells z l.length (.slice base l.length sCap)).run P w.drew = .ok olds.toArray w.drew := by
        rcases hold with ⟨rfl, rfl⟩ | ⟨ad', rfl, hcell⟩
        · rfl
        · exact run_firstCells_some w.drew z l.length ad' _ _ olds (by rw [← hro.len, flat_len hzl]) hcell
      rw [e1] at hx'
      split at hk
      ·
        have hcap : l.length ≤ sCap := by
          cases hx' with
          | sl0 w z c a h => simp
          | nls z => simp
          | sl w z l B q c f hw hcap hz h1 h2 => exact hcap
        have hvs : vs = [] := hrn.nil_inv
        subst hvs
        have hrun := run_app_fit (P := P) (w := w) (ty := o.type) (base := base) (sLen := l.length) (sCap := sCap) (w' := w) ht hu hz hlen (hfc w rfl) (by simpa using hcap) (by cases base <;> rfl)
        refine wp_pure hc hh (x := .slice base l.length sCap) ?_ hx'.u hk
        rw [hrunop w, hrun]
        rfl
      · rename_i x1 xs1
        have hgrow : ∀ t, sCap < l.length + (x1 :: xs1).length → (t = h.next ∨ ∃ m, h.blk t = some (.tok m) ∧ m < l.length + (x1 :: xs1).length) →
            K (.sl (.tok t) z (l ++ x1 :: xs1)) (h.setTok t (l.length + (x1 :: xs1).length)) = some r → o.wp P a w next Q := fun t hlt htok hk' =>
          wp_growTk (ty := o.type) (u := u) (xs := x1 :: xs1) (fun w _ => hrunop w) ht hu hz hz0 hzv hzc hby hroom hlen (hfc w.drew rfl) holdrun hlt hro hrn hzl hzx hh hN htok hk' hc
        split at hk
        ·
          rename_i t
          split at hk
          · rename_i n hn
            cases hnl : n.beq l.length with
            | false => rw [hnl] at hk; cases hk
            | true =>
              rw [hnl, cond_true] at hk
              have := Nat.eq_of_beq_eq_true hnl
              subst this
              have hput : h.put t (.tok (l.length + xs1.length + 1)) = h.setTok t (l.length + (x1 :: xs1).length) := by
                unfold Heap.setTok
                rw [if_neg (by have := hh.lt _ _ hn; omega)]
                rfl
              rw [hput] at hk
              by_cases hfit : l.length + (x1 :: xs1).length ≤ sCap
              · have hlne : l ≠ [] := fun e3 => by
                  subst e3
                  cases hx' with
                  | sl0 w z c a h => rcases h with h | ⟨h, -⟩ <;> cases h
                  | sl w z l B q c f hw hcap hz h1 h2 => exact absurd hw.1 (Nat.lt_irrefl 0)
                obtain ⟨B, q, c, f, e4, hfits, hcap, -, hf1, hf2⟩ := hx'.sl_inv hlne
                simp at e4
                obtain ⟨rfl, rfl⟩ := e4
                have hvl : vs.length = ((l.length + (x1 :: xs1).length) - l.length) * z := by rw [← hrn.len, flat_len hzx]; congr 1; omega
                obtain ⟨hle, hh', hfr, w1, w2⟩ := hh.putTk hn hfits.2 (n' := l.length + (x1 :: xs1).length) (by rw [List.length_cons]; omega) hfit vs hvl
                have hst := run_storeCells_cells (P := P) B (q + l.length * z) vs 0 w w1 w2 hrn.ones
                have hrun := run_app_fit (P := P) (w := w) (ty := o.type) (base := some ⟨B, q, none⟩) (sLen := l.length) (sCap := sCap) (w' := w.setCells B (q + l.length * z) vs) ht hu hz hlen (hfc w rfl) hfit (by simp only [addr_add]; exact hst)
                refine wp_val (x := .slice (some ⟨B, q, none⟩) (l.length + (x1 :: xs1).length) sCap) (by rw [hrunop w, hrun]; rfl) (hc _ _ _ _ _ hk hle hfr hh' (VRel.u ?_))
                have hfl : (l ++ x1 :: xs1).flatMap cells = l.flatMap cells ++ (x1 :: xs1).flatMap cells := List.flatMap_append
                suffices hkey : VRel (Γ.putTk t (l.length + (x1 :: xs1).length) B q sCap z (q + l.length * z) (q + (l.length + (x1 :: xs1).length) * z) (fun i => vs[i - (q + l.length * z)]?)) (.sl (.tok t) z (l ++ x1 :: xs1)) (.slice (some ⟨B, q, none⟩) (l ++ x1 :: xs1).length sCap) by
                  rw [List.length_append] at hkey; exact hkey
                refine VRel.sl_of (vs := olds ++ vs) ⟨by rw [List.length_append, List.length_cons]; omega, ?_⟩ (by rw [List.length_append]; exact hfit) (fun y hy => ?_) (fun i v hv => ?_) ?_
                · rw [List.length_append]; simp only [Gam.putTk, and_self, if_true]
                · rcases List.mem_append.1 hy with h | h
                  · exact hzl y h
                  · exact hzx y h
                · have hol : olds.length = l.length * z := by rw [← hro.len, flat_len hzl]
                  have hi : i < (olds ++ vs).length := by
                    rcases Nat.lt_or_ge i (olds ++ vs).length with h | h
                    · exact h
                    · rw [List.getElem?_eq_none h] at hv; cases hv
                  simp only [Gam.putTk]
                  by_cases hio : i < olds.length
                  · rw [if_neg (by omega)]
                    have hi' : i < (l.flatMap cells).length := by rw [hro.len]; exact hio
                    rw [(hf1 i hi').1]
                    rcases hold with ⟨hnone, -⟩ | ⟨ad', had, hcell⟩
                    · cases hnone
                    · simp at had
                      subst had
                      rw [List.getElem?_append_left hio] at hv
                      have hcv := hcell i v hv
                      rw [addr_add, (hh.prok B (q + i) _ (hf1 i hi').1).1] at hcv
                      exact hcv
                  · rw [List.length_append] at hi
                    have hvl2 : vs.length = (l.length + (x1 :: xs1).length) * z - l.length * z := by rw [hvl, Nat.sub_mul]
                    have hm : l.length * z ≤ (l.length + (x1 :: xs1).length) * z := Nat.mul_le_mul_right _ (by omega)
                    rw [if_pos ⟨trivial, by omega, by omega⟩]
                    rw [List.getElem?_append_right (by omega)] at hv
                    rw [← hv]
                    congr 1
                    omega
                · rw [hfl]
                  exact (hro.append hrn).mono hle
              · exact hgrow t (by omega) (.inr ⟨l.length, hn, by simp⟩) hk
          · cases hk
        · cases hk
        · rename_i hnt hnr
          refine hgrow h.next ?_ (.inl rfl) ?_
          · cases hx' with
            | sl0 w z c a h =>
              rcases h with h | ⟨-, h⟩
              · subst h; exact absurd rfl hnr
              · subst h; simp
            | nls z => simp
            | sl w z l B q c f hw hcap hz h1 h2 =>
              cases u with
              | nl => exact hw.elim
              | ex =>
                have hcn : sCap = l.length := hw
                rw [hcn]; simp
              | ro => exact absurd rfl hnr
              | tok t => exact absurd rfl (hnt t)
          · have : h.setTok h.next (l.length + (x1 :: xs1).length) = h.add (.tok (l.length + xs1.length + 1)) := by
              unfold Heap.setTok
              rw [if_pos rfl]
              rfl
            rw [this]
            exact hk
  · cases hk
end Go.AM
