import Derived.Test.YtfpkdeokpomocaaAMSl
import Derived.Laws.BytesString
set_option linter.constructorNameAsVariable false
set_option linter.unusedVariables false
set_option linter.unusedSimpArgs false
set_option linter.unusedVariables false
set_option linter.unusedSimpArgs false
namespace Go.AM
open Go
variable {P : Program} {N : Nat} {Γ : Gam} {h : Heap} {w : World} {σ : Slots} {a : Act} {o : GOper} {next : Act → World → Prop}
  {Q : _root_.Go.Exit → Act → World → Prop} {r : Val × Heap} {K : Val → Heap → R}
theorem infos {e : TypeId} {z : Nat} {zv : Value} (hz : tSize P e = some z) (hzv : tZero P e = some zv) : ∃ ie, P.info? e = some ie ∧ ie.size = z ∧ ie.zero = some zv := by
  unfold tSize at hz
  unfold tZero at hzv
  obtain ⟨ie, hie, h1⟩ := Option.map_eq_some_iff.1 hz
  rw [hie] at hzv
  exact ⟨ie, hie, h1, by simpa using hzv⟩
theorem reps_len (v : Val) : ∀ n, (reps n v).length = n
  | 0 => rfl
  | n + 1 => by simp [reps, reps_len v n]
theorem reps_mem (v : Val) : ∀ n x, x ∈ reps n v → x = v
  | n + 1, x, h => by
    simp only [reps, List.mem_cons] at h
    rcases h with h | h
    · exact h
    · exact reps_mem v n x h
theorem reps_flat (v : Val) : ∀ n, (reps n v).flatMap cells = repsL n (cells v)
  | 0 => rfl
  | n + 1 => by simp [reps, repsL, reps_flat v n]
theorem repsL_len (l : List Val) : ∀ n, (repsL n l).length = n * l.length
  | 0 => by simp [repsL]
  | n + 1 => by simp [repsL, repsL_len l n, Nat.add_mul]; omega
theorem repsL_get (l : List Val) (hl : 0 < l.length) : ∀ n i, i < n * l.length → (repsL n l).getD i .unk = l.getD (i % l.length) .unk
  | 0, i, h => by simp at h
  | n + 1, i, h => by
    simp only [repsL, List.getD_eq_getElem?_getD]
    by_cases hi : i < l.length
    · rw [List.getElem?_append_left hi, Nat.mod_eq_of_lt hi]
    · rw [List.getElem?_append_right (by omega)]
      have := repsL_get l hl n (i - l.length) (by rw [Nat.add_mul] at h; omega)
      simp only [List.getD_eq_getElem?_getD] at this
      rw [this]
      congr 2
      exact (Nat.mod_eq_sub_mod (by omega)).symm
theorem repsL_rel {cs : List Val} {z : Array Value} (hr : CRel Γ cs z.toList) (h0 : 0 < cs.length) (n : Nat) : CRel Γ (repsL n cs) (madeCells z (n * cs.length)).toList := by
  have hlen : cs.length = z.size := by simpa using hr.len
  have hg : ∀ i, i < n * cs.length → (madeCells z (n * cs.length)).toList.getD i undef = z.toList.getD (i % cs.length) undef := by
    intro i hi
    have hm : i % cs.length < z.size := by rw [← hlen]; exact Nat.mod_lt _ h0
    have hm' : i % z.size < z.size := by rw [← hlen] at hm ⊢; exact hm
    rw [hlen] at hi ⊢
    simp only [madeCells, List.getD_eq_getElem?_getD, Array.toList_map, Array.toList_range, List.getElem?_map, List.getElem?_range hi, Option.map_some, Option.getD_some, Array.getElem?_toList]
    rw [Array.getElem?_eq_getElem hm', getElem!_pos z (i % z.size) hm']
    rfl
  refine ⟨by rw [repsL_len]; simp [size_madeCells], fun i hi => ?_, fun i hi => ?_⟩
  · rw [repsL_len] at hi
    rw [hg i hi]
    exact hr.one _ (Nat.mod_lt _ h0)
  · rw [repsL_len] at hi
    rw [hg i hi, repsL_get cs h0 n i hi]
    exact hr.rel _ (Nat.mod_lt _ h0)
theorem sd_msp (z : Nat) (v : Val) (t e : TypeId) (x y : X) (x' y' : Operand) (ho : o.op = .makeSlice t x' y') (ht : tSl P t = some e) (hz : tSize P e = some z) (zv : Value) (hzv : tZero P e = some zv) (h0 : (z.beq 0) = false)
    (hzz : okCs (cells v) zv.cells.toList = true) (hzl : (cells v).length = z) (hby : P.bytesOf e ≤ 65536) (h1 : okX x x' = true) (h2 : okX y y' = true) (hs : SRel Γ σ a.tmps) (hh : HRel Γ h w N)
    (hk : mspC z v (ev σ x) (ev σ y) (fun v => K v h) = some r) (hc : Cont Γ w N K r a o.dst next) : o.wp P a w next Q := by
  unfold mspC at hk
  split at hk
  · rename_i k1 n k2 c ex ey
    cases hb : (n == c && decide (0 ≤ n) && decide (n ≤ (room : Int))) with
    | false => rw [hb] at hk; cases hk
    | true =>
      rw [hb, cond_true] at hk
      simp only [Bool.and_eq_true, beq_iff_eq, decide_eq_true_eq] at hb
      obtain ⟨⟨rfl, hn0⟩, hn1⟩ := hb
      obtain ⟨ie, hie, hies, hiez⟩ := infos hz hzv
      have hz0 : 0 < z := Nat.pos_of_ne_zero fun e => by rw [bt e] at h0; cases h0
      have hbb : ie.bytes ≤ 65536 := by simpa [Program.bytesOf, hie] using hby
      have hmul : (ie.bytes : Int) * n ≤ 281474976710656 := by
        have : (ie.bytes : Int) * n ≤ 65536 * 2147483648 := Int.mul_le_mul (by omega) (by simpa [room] using hn1) hn0 (by omega)
        omega
      have hrun := run_make (P := P) w t e ie zv (tSl_some ht) hie hiez k1 k2 n n hn0 (Int.le_refl _) hmul (by simp [room] at hn1; omega)
      refine wp_newsl (arr := madeCells zv.cells (n.toNat * ie.size)) (e := e) (n := n.toNat) (l := reps n.toNat v) (z := z) (.inl rfl) hc hh ?_ (by rw [reps_len]) (fun x hx => by rw [reps_mem v _ x hx]; exact hzl) ?_ hk
      · simp only [execOp, ho, oi (okX_sound hs h1) ex, oi (okX_sound hs h2) ey, Sem.run_bind, hrun, Result.andThen_ok, Sem.run_pure]
      · rw [reps_flat, hies, ← hzl]
        exact repsL_rel (okCs_sound hzz) (by omega) _
  · cases hk
theorem sd_msm (z : Nat) (v : Val) (t e : TypeId) (x y : X) (x' y' : Operand) (ho : o.op = .makeSlice t x' y') (ht : tSl P t = some e) (hz : tSize P e = some z) (zv : Value) (hzv : tZero P e = some zv) (h0 : (z.beq 0) = false)
    (hzz : okCs (cells v) zv.cells.toList = true) (hzl : (cells v).length = z) (hby : P.bytesOf e ≤ 65536) (h1 : okX x x' = true) (h2 : okX y y' = true) (hs : SRel Γ σ a.tmps) (hh : HRel Γ h w N) (hN : N ≤ w.heap.size)
    (hk : msmC z v (ev σ x) (ev σ y) h K = some r) (hc : Cont Γ w N K r a o.dst next) : o.wp P a w next Q := by
  unfold msmC at hk
  split at hk
  · rename_i k1 n k2 c ex ey
    cases hb : (decide (0 ≤ n) && decide (n ≤ c) && decide (c ≤ (room : Int))) with
    | false => rw [hb] at hk; cases hk
    | true =>
      rw [hb, cond_true] at hk
      simp only [Bool.and_eq_true, decide_eq_true_eq] at hb
      obtain ⟨⟨hn0, hnc⟩, hn1⟩ := hb
      obtain ⟨ie, hie, hies, hiez⟩ := infos hz hzv
      have hz0 : 0 < z := Nat.pos_of_ne_zero fun e => by rw [bt e] at h0; cases h0
      have hbb : ie.bytes ≤ 65536 := by simpa [Program.bytesOf, hie] using hby
      have hmul : (ie.bytes : Int) * c ≤ 281474976710656 := by
        have : (ie.bytes : Int) * c ≤ 65536 * 2147483648 := Int.mul_le_mul (by omega) (by simpa [room] using hn1) (by omega) (by omega)
        omega
      have hrun := run_make (P := P) w t e ie zv (tSl_some ht) hie hiez k1 k2 n c hn0 hnc hmul (by simp [room] at hn1; omega)
      have hrel : CRel Γ (repsL c.toNat (cells v)) (madeCells zv.cells (c.toNat * ie.size)).toList := by
        rw [hies, ← hzl]
        exact repsL_rel (okCs_sound hzz) (by omega) _
      refine wp_val (x := .slice (some ⟨w.heap.size, 0, none⟩) n.toNat c.toNat) (w' := w.alloc (.cells (madeCells zv.cells (c.toNat * ie.size)) e)) ?_ (hc _ _ _ _ (Γ.addBl h.next w.heap.size) hk (Gam.addBl_le hh) (Gam.addBl_frame h _)
        (hh.addBl hN _ e (0, 0) _ (by have := hrel.len; simp at this; simp; omega) fun i hi => ?_) (VRel.ms _ _ _ _ _ _ _ (by simp [Gam.addBl]) (Nat.le_refl _)).u)
      · simp only [execOp, ho, oi (okX_sound hs h1) ex, oi (okX_sound hs h2) ey, Sem.run_bind, hrun, Result.andThen_ok, Sem.run_pure]
      · have h1 := hrel.rel i hi
        have h2 := hrel.one i hi
        rw [getD_toList (madeCells zv.cells (c.toNat * ie.size))] at h1 h2
        exact ⟨h1, h2, fun e => Nat.not_lt_zero _ e.2⟩
  · cases hk
theorem bytesOf_some : ∀ {l : List Val} {s : List UInt8}, bytesOf l = some s → ∃ ns : List Int, l = ns.map (Val.int .u8) ∧ s = ns.map fun n => UInt8.ofNat n.toNat
  | [], s, h => by simp [bytesOf] at h; subst h; exact ⟨[], rfl, rfl⟩
  | v :: l, s, h => by
    unfold bytesOf at h
    split at h
    · rename_i b r hb hr
      simp at h
      subst h
      obtain ⟨ns, rfl, rfl⟩ := bytesOf_some hr
      unfold byteOf at hb
      split at hb
      · rename_i n
        simp at hb
        exact ⟨n :: ns, rfl, by simp [hb]⟩
      · cases hb
    · cases h
theorem CRel.ints {k : IntKind} : ∀ {ns : List Int} {vs : List Value}, CRel Γ (ns.map (Val.int k)) vs → vs = ns.map (Value.int k)
  | [], vs, h => h.nil_inv
  | n :: ns, vs, h => by
    obtain ⟨v, vs', rfl, h1, -, h3⟩ := h.cons_inv
    rw [CRel.ints h3, oi h1.u rfl]
    rfl
theorem foldl_push (ns : List Int) : ∀ s : ByteArray, (ns.foldl (fun r n => r.push (UInt8.ofNat n.toNat)) s).data.toList = s.data.toList ++ ns.map fun n => UInt8.ofNat n.toNat := by
  induction ns with
  | nil => intro s; simp
  | cons n ns ih => intro s; simp only [List.foldl_cons, ih]; simp
theorem run_cells_of {B q n : Nat} {vs : List Value} (hl : vs.length = n) (hc : ∀ j v, vs[j]? = some v → w.cell? ⟨B, q + j, none⟩ = some v) : (loadCells ⟨B, q, none⟩ n).run P w = .ok vs.toArray w := by
  have := run_loadCells_list (P := P) w ⟨B, q, none⟩ vs (fun j v hj => by rw [addr_add]; exact hc j v hj)
  rw [hl] at this
  exact this
theorem sl_cells (hh : HRel Γ h w N) {u : Own} {z : Nat} {l : List Val} {x : Value} (hx : VRel Γ (.sl u z l) x) :
    ∃ ad c vs, x = .slice ad l.length c ∧ CRel Γ (l.flatMap cells) vs ∧ (∀ y ∈ l, (cells y).length = z) ∧
      ((ad = none ∧ vs = []) ∨ ∃ ad', ad = some ad' ∧ ∀ j v, vs[j]? = some v → w.cell? (ad'.add j) = some v) := by
  cases hx with
  | sl0 w z c a h => exact ⟨some a, c, [], rfl, CRel.nil Γ, fun y hy => by simp at hy, .inr ⟨a, rfl, fun j v hj => by simp at hj⟩⟩
  | nls z => exact ⟨none, 0, [], rfl, CRel.nil Γ, fun y hy => by simp at hy, .inl ⟨rfl, rfl⟩⟩
  | sl u z l B q c f hw hcap hz h1 h2 =>
    refine ⟨some ⟨B, q, none⟩, c, (List.range (l.flatMap cells).length).map f, rfl, ⟨by simp, fun i hi => ?_, fun i hi => ?_⟩, hz, .inr ⟨_, rfl, fun j v hj => ?_⟩⟩
    · have := (h1 i hi).2
      simpa only [List.getD_eq_getElem?_getD, List.getElem?_map, List.getElem?_range hi, Option.map_some, Option.getD_some] using this
    · have := h2 i hi
      simpa only [List.getD_eq_getElem?_getD, List.getElem?_map, List.getElem?_range hi, Option.map_some, Option.getD_some] using this
    · have hjn : j < (l.flatMap cells).length := by
        rcases Nat.lt_or_ge j (l.flatMap cells).length with h | h
        · exact h
        · rw [List.getElem?_eq_none (by simpa using h)] at hj; cases hj
      rw [List.getElem?_map, List.getElem?_range hjn] at hj
      simp at hj
      rw [addr_add, ← hj]
      exact (hh.prok B (q + j) _ (h1 j hjn).1).1
theorem flat_ints {k : IntKind} (ns : List Int) : (ns.map (Val.int k)).flatMap cells = ns.map (Val.int k) := by
  induction ns with
  | nil => rfl
  | cons n ns ih => simp only [List.map_cons, List.flatMap_cons, ih]; rfl
theorem sd_cvs (s t e : TypeId) (x : X) (x' : Operand) (ho : o.op = .convert s t x') (hs' : tSl P s = some e) (he : tInt P e = some .u8) (ht : tStr P t = true) (h1 : okX x x' = true)
    (hs : SRel Γ σ a.tmps) (hh : HRel Γ h w N) (hk : cvsC (ev σ x) h (fun v => K v h) = some r) (hc : Cont Γ w N K r a o.dst next) : o.wp P a w next Q := by
  have hx := okX_sound hs h1
  have key : ∀ (y : Value) (n c : Nat) (ad : Option Addr) (ns : List Int), a.eval x' = .slice ad n c → (Conv.bytesToString (.slice ad n c)).run P w = .ok y w → (execOp a.eval o).run P w = .ok (.value y) w := by
    intro y n c ad ns e1 e2
    simp only [execOp, ho, convert, Sem.run_bind, run_underlying (tSl_some hs'), run_underlying (tStr_some ht), run_underlying (tInt_some he), Result.andThen_ok, e1, e2, Sem.run_pure]
  unfold cvsC at hk
  split at hk
  · rename_i u z l ex
    split at hk
    · rename_i s1 hb
      obtain ⟨ns, rfl, rfl⟩ := bytesOf_some hb
      rw [ex] at hx
      obtain ⟨ad, c, vs, e1, hr, -, had⟩ := sl_cells hh (hx (by simp))
      rw [flat_ints] at hr
      have hvs := hr.ints
      subst hvs
      rcases had with ⟨rfl, hnil⟩ | ⟨ad', rfl, hcell⟩
      · have hns : ns = [] := by simpa using hnil
        subst hns
        exact wp_pure hc hh (key (.string .empty) _ _ _ [] e1 rfl) (VRel.str _ _ rfl).u hk
      · have hl := run_loadCells_list (P := P) w ad' (ns.map (Value.int .u8)) hcell
        simp only [List.length_map] at hl e1
        exact wp_pure hc hh (key _ _ _ _ ns e1 (run_bytesToString w ad' ns.length c ns hl)) (VRel.str _ _ (by rw [foldl_push]; rfl)).u hk
    · cases hk
  · rename_i b q n c z ex
    split at hk
    · rename_i s1 hb
      obtain ⟨cs, hcs, hb2⟩ := Option.bind_eq_some_iff.1 hb
      obtain ⟨ns, rfl, rfl⟩ := bytesOf_some hb2
      rw [ex] at hx
      obtain ⟨B, c', e1, hB, -⟩ := (hx (by simp)).ms_inv
      obtain ⟨B', q', vs, e2, hr, hlen, hcell⟩ := ld_cells hh (VRel.ptr (Γ := Γ) b q B hB) (n := n) (cs := ns.map (Val.int .u8)) hcs
      simp at e2
      obtain ⟨rfl, rfl⟩ := e2
      have hvs := hr.ints
      subst hvs
      simp only [List.length_map] at hlen
      subst hlen
      have hl := run_cells_of (P := P) (w := w) (B := B) (q := q) (n := ns.length) (vs := ns.map (Value.int .u8)) (by simp) hcell
      exact wp_pure hc hh (key _ _ _ _ ns e1 (run_bytesToString w _ ns.length c' ns hl)) (VRel.str _ _ (by rw [foldl_push]; rfl)).u hk
    · cases hk
  · cases hk
end Go.AM
