import Derived.Test.YtfpkdeokpomocaaAMPure3
import Derived.Laws.Tables
import Derived.ChangeKeysEq
set_option linter.constructorNameAsVariable false
set_option linter.unusedVariables false
set_option linter.unusedSimpArgs false
set_option linter.unusedVariables false
set_option linter.unusedSimpArgs false
namespace Go.AM
open Go
variable {P : Program} {N : Nat} {Γ : Gam} {h : Heap} {w : World} {σ : Slots} {a : Act} {o : GOper} {next : Act → World → Prop}
  {Q : _root_.Go.Exit → Act → World → Prop} {r : Val × Heap} {K : Val → Heap → R}
def tPlace (P : Program) (t : TypeId) : Option (Nat → Option (Nat × Nat)) :=
  match P.underlying t with
  | some (.array _ e) => (P.info? e).map fun ie => fun i => some (i * ie.size, ie.size)
  | some (.struct fields) => (fields.toList.mapM (fun f => (P.info? f.type).map fun i => (f.offset, i.size))).map fun places => (places.toArray[·]?)
  | _ => none
theorem built_of {t : TypeId} {pl : Nat → Option (Nat × Nat)} {z : Value} (hp : tPlace P t = some pl) (hz : tZero P t = some z) (parts : List (Nat × Value)) :
    P.built t parts = Instr.fill pl z.cells parts := by
  unfold tPlace at hp
  unfold tZero at hz
  obtain ⟨it, hit, hzz⟩ := Option.bind_eq_some_iff.1 hz
  unfold Program.built
  split at hp
  · rename_i n e hu
    obtain ⟨ie, hie, rfl⟩ := Option.map_eq_some_iff.1 hp
    simp only [hit, hu, hzz, hie]
  · rename_i fields hu
    obtain ⟨places, hpl, rfl⟩ := Option.map_eq_some_iff.1 hp
    simp only [hit, hu, hzz, hpl]
  · cases hp
def okParts (pl : Nat → Option (Nat × Nat)) : List (Nat × Nat × X) → List (Nat × Operand) → Bool
  | [], [] => true
  | (q, n, x) :: l, (i, y) :: m => (match pl i with
    | some (q', n') => q.beq q' && n.beq n' && !n.beq 0
    | none => false) && okX x y && okParts pl l m
  | _, _ => false
theorem foldl_set : ∀ (l : List Value) (k off : Nat) (cs : Array Value), off + k + l.length ≤ cs.size →
    ((l.zipIdx k).foldl (fun cs (x : Value × Nat) => cs.setIfInBounds (off + x.2) x.1) cs).toList = cs.toList.take (off + k) ++ l ++ cs.toList.drop (off + k + l.length)
  | [], k, off, cs, h => by simp
  | v :: l, k, off, cs, h => by
    simp only [List.zipIdx_cons, List.foldl_cons]
    have h' : off + k < cs.size := by simp at h; omega
    rw [foldl_set l (k + 1) off _ (by simp at h ⊢; omega)]
    have hl : cs.toList.length = cs.size := Array.length_toList
    have hset : cs.toList.set (off + k) v = cs.toList.take (off + k) ++ v :: cs.toList.drop (off + k + 1) := by
      rw [List.set_eq_take_append_cons_drop, if_pos (by omega)]
    have hlt : (cs.toList.take (off + k)).length = off + k := by rw [List.length_take]; omega
    have e1 : ∀ (A D : List Value), A.length = off + k → (A ++ v :: D).take (off + (k + 1)) = A ++ [v] := fun A D hA => by
      rw [show off + (k + 1) = A.length + 1 by omega, List.take_append, List.take_of_length_le (by omega)]; simp
    have e2 : ∀ (A D : List Value), A.length = off + k → (A ++ v :: D).drop (off + (k + 1) + l.length) = D.drop l.length := fun A D hA => by
      rw [show off + (k + 1) + l.length = A.length + (l.length + 1) by omega, List.drop_append]; simp
    rw [Array.toList_setIfInBounds, hset, e1 _ _ hlt, e2 _ _ hlt, List.drop_drop, List.length_cons]
    simp
    congr 1
    omega
theorem cells_ne_tup {v : Val} {n : Nat} (h : (cells v).length = n) (h0 : n ≠ 0) : v ≠ .unk ∧ ∀ l, v ≠ .tup l := by
  constructor
  · intro e; subst e; exact h0 h.symm
  · intro l e; subst e; exact h0 h.symm
theorem CRel.put {cs xs : List Val} {vs ys : List Value} (h : CRel Γ cs vs) (k : CRel Γ xs ys) (n : Nat) : CRel Γ (cs.take n ++ xs ++ cs.drop (n + xs.length)) (vs.take n ++ ys ++ vs.drop (n + ys.length)) := by
  rw [k.len]
  exact ((h.take n).append k).append (h.drop _)
theorem fill_sound (hs : SRel Γ σ a.tmps) (pl : Nat → Option (Nat × Nat)) : ∀ (ps : List (Nat × Nat × X)) (qs : List (Nat × Operand)) (acc : List Val) (accV : Array Value) (l : List Val),
    okParts pl ps qs = true → CRel Γ acc accV.toList → putA (evp σ ps) acc = some l →
    ∃ V : Array Value, Instr.fill pl accV (qs.map fun x => (x.1, a.eval x.2)) = some V ∧ CRel Γ l V.toList
  | [], [], acc, accV, l, _, hr, hp => by
    simp [putA, evp] at hp
    subst hp
    exact ⟨accV, rfl, hr⟩
  | (q, n, x) :: ps, (i, y) :: qs, acc, accV, l, hok, hr, hp => by
    simp only [okParts, Bool.and_eq_true] at hok
    obtain ⟨⟨h1, h2⟩, h3⟩ := hok
    split at h1
    · rename_i q' n' hpl
      simp only [Bool.and_eq_true, Bool.not_eq_true'] at h1
      have e1 := Nat.eq_of_beq_eq_true h1.1.1
      have e2 := Nat.eq_of_beq_eq_true h1.1.2
      subst e1 e2
      have h0 : n ≠ 0 := fun e => by rw [bt e] at h1; exact absurd h1.2 (by simp)
      simp only [evp, putA] at hp
      cases hb : (cells (ev σ x)).length.beq n with
      | false => rw [hb] at hp; cases hp
      | true =>
        rw [hb, cond_true] at hp
        have hlen := Nat.eq_of_beq_eq_true hb
        split at hp
        · rename_i acc' hacc
          obtain ⟨rfl, hle⟩ := putN_some hacc
          obtain ⟨hne, hnt⟩ := cells_ne_tup hlen h0
          have hv := (okX_sound hs h2 hne).cellsR hnt
          have hvl : (a.eval y).cells.size = n := by have := hv.len; simp at this; omega
          have hal : acc.length = accV.size := by simpa using hr.len
          have hf := foldl_set (a.eval y).cells.toList 0 q accV (by simp; omega)
          have hput := hr.put hv q
          have hV : CRel Γ (acc.take q ++ cells (ev σ x) ++ acc.drop (q + (cells (ev σ x)).length))
              ((a.eval y).cells.zipIdx.foldl (fun cs (x : Value × Nat) => cs.setIfInBounds (q + x.2) x.1) accV).toList := by
            rw [← Array.foldl_toList, Array.toList_zipIdx, hf]
            simpa using hput
          obtain ⟨V, hfill, hrel⟩ := fill_sound hs pl ps qs _ _ l h3 hV hp
          refine ⟨V, ?_, hrel⟩
          simp only [List.map_cons, Instr.fill, hpl]
          rw [if_neg (by simp [hvl]; omega)]
          exact hfill
        · cases hp
    · cases h1
  | [], _ :: _, _, _, _, h, _, _ => by simp [okParts] at h
  | _ :: _, [], _, _, _, h, _, _ => by simp [okParts] at h
theorem sd_agg (z : List Val) (ps : List (Nat × Nat × X)) (t : TypeId) (qs : Array (Nat × Operand)) (ho : o.op = .build t qs) (pl : Nat → Option (Nat × Nat)) (zv : Value) (hpl : tPlace P t = some pl) (hz : tZero P t = some zv)
    (hzz : okCs z zv.cells.toList = true) (h1 : okParts pl ps qs.toList = true) (hs : SRel Γ σ a.tmps) (hh : HRel Γ h w N)
    (hk : aggC z (evp σ ps) (fun v => K v h) = some r) (hc : Cont Γ w N K r a o.dst next) : o.wp P a w next Q := by
  unfold aggC at hk
  split at hk
  · rename_i l hl
    obtain ⟨V, hf, hr⟩ := fill_sound hs pl ps qs.toList z zv.cells l h1 (okCs_sound hzz) hl
    have hb : P.built t (qs.map fun (i, x) => (i, a.eval x)).toList = some V := by
      rw [built_of hpl hz, ← hf, Array.toList_map]
    refine wp_pure hc hh (x := .agg V) ?_ ?_ hk
    · simp only [execOp, ho, Sem.run_bind, run_build w t _ _ hb, Result.andThen_ok, Sem.run_pure]
    · have := hr.agg
      simpa using this.u
  · cases hk
theorem sd_mkf (f : Nat) (cs : List X) (os : Array Operand) (ho : o.op = .makeFunc (.func f) #[] os) (h1 : okXs cs os.toList = true) (hs : SRel Γ σ a.tmps) (hh : HRel Γ h w N)
    (hk : K (.func f (evs σ cs)) h = some r) (hc : Cont Γ w N K r a o.dst next) : o.wp P a w next Q := by
  refine wp_pure hc hh (x := .func (.func f) #[] (os.map a.eval)) (by simp [execOp, ho, Instr.makeFunc]) ?_ hk
  have := (okXs_sound (Γ := Γ) hs h1).func f
  have e : (List.map a.eval os.toList).toArray = os.map a.eval := by rw [← Array.toList_map, Array.toArray_toList]
  rw [e] at this
  exact this.u
theorem sd_mki (t : TypeId) (x : X) (x' : Operand) (ho : o.op = .makeInterface t x') (hcn : P.concrete t = true) (h1 : okX x x' = true) (hs : SRel Γ σ a.tmps) (hh : HRel Γ h w N)
    (hk : mkiC t (ev σ x) (fun v => K v h) = some r) (hc : Cont Γ w N K r a o.dst next) : o.wp P a w next Q := by
  have hx := okX_sound hs h1
  have hne : ev σ x ≠ .unk := fun e => by rw [e] at hk; cases hk
  have hk' : K (.iface t (ev σ x)) h = some r := by
    revert hk
    unfold mkiC
    cases hv : ev σ x <;> simp_all
  exact wp_pure hc hh (x := .iface t (a.eval x')) (by simp [execOp, ho, run_makeInterface w t _ hcn]) (VRel.iface _ _ _ (hx hne)).u hk'
theorem sd_lens (at_ : Array TypeId) (t : TypeId) (x : X) (x' : Operand) (ho : o.op = .call { callee := .builtin .len, args := #[x'], argTypes := at_ }) (ht : at_[0]? = some t)
    (hok : tStr P t = true) (h1 : okX x x' = true) (hs : SRel Γ σ a.tmps) (hh : HRel Γ h w N)
    (hk : lensC (ev σ x) (fun v => K v h) = some r) (hc : Cont Γ w N K r a o.dst next) : o.wp P a w next Q := by
  have hx := okX_sound hs h1
  unfold lensC at hk
  split at hk
  · rename_i l e
    obtain ⟨s1, e1, rfl⟩ := os_ hx e
    refine wp_pure hc hh (x := .int .i64 s1.data.toList.length) ?_ (VRel.int _ _).u hk
    have hl : s1.data.toList.length = s1.size := Array.length_toList
    rw [hl]
    simp [execOp, ho, resolve, invoke, builtin, Builtin.len_, ht, run_underlying (tStr_some hok), e1, goInt]
  · cases hk
theorem sd_lenl (at_ : Array TypeId) (t e : TypeId) (x : X) (x' : Operand) (ho : o.op = .call { callee := .builtin .len, args := #[x'], argTypes := at_ }) (ht : at_[0]? = some t)
    (hok : tSl P t = some e) (h1 : okX x x' = true) (hs : SRel Γ σ a.tmps) (hh : HRel Γ h w N)
    (hk : lenlC (ev σ x) (fun v => K v h) = some r) (hc : Cont Γ w N K r a o.dst next) : o.wp P a w next Q := by
  have hx := okX_sound hs h1
  have key : ∀ b n c, a.eval x' = .slice b n c → (execOp a.eval o).run P w = .ok (.value (.int .i64 n)) w := by
    intro b n c e1
    simp [execOp, ho, resolve, invoke, builtin, Builtin.len_, ht, run_underlying (tSl_some hok), e1, goInt]
  unfold lenlC at hk
  split at hk
  · rename_i u z l e
    rw [e] at hx
    obtain ⟨b, c, e1⟩ := (hx (by simp)).sl_len
    exact wp_pure hc hh (key b _ c e1) (VRel.int _ _).u hk
  · rename_i b q n c z e
    rw [e] at hx
    obtain ⟨B, c', e1, -⟩ := (hx (by simp)).ms_inv
    exact wp_pure hc hh (key _ _ _ e1) (VRel.int _ _).u hk
  · cases hk
theorem sd_sla (n z : Nat) (t arr e : TypeId) (x : X) (lo hi : Option X) (x' : Operand) (lo' hi' : Option Operand) (ho : o.op = .slice t x' lo' hi' none)
    (ht : P.underlying t = some (.pointer arr) ∧ tArr P arr = some (n, e) ∨ tArr P t = some (n, e)) (hz : tSize P e = some z)
    (h1 : okX x x' = true) (h2 : okXo lo lo' = true) (h3 : okXo hi hi' = true) (hs : SRel Γ σ a.tmps) (hh : HRel Γ h w N)
    (hk : slaC n z (ev σ x) (evo σ lo) (evo σ hi) (fun v => K v h) = some r) (hc : Cont Γ w N K r a o.dst next) : o.wp P a w next Q := by
  have hx := okX_sound hs h1
  unfold slaC at hk
  split at hk
  · rename_i b q ex
    split at hk
    · rename_i e1 he
      split at hk
      · rename_i l hl
        rw [ex] at hx
        obtain ⟨B, e2, hB⟩ := (hx (by simp)).ptr_inv
        obtain ⟨hr, hle, hle2⟩ := run_sliceBounds (P := P) (isSlice := false) (okXo_sound hs h2) (okXo_sound hs h3) (Nat.le_refl _) he hl w
        cases hb : l.beq n with
        | true =>
          rw [hb, cond_true] at hk
          have hln := Nat.eq_of_beq_eq_true hb
          subst hln
          have hel : e1 = l := by omega
          subst hel
          have hv : VRel Γ (.sl .ex z []) (.slice (some ⟨B, q, none⟩) 0 0) := .sl0 _ _ _ _ (.inr ⟨rfl, rfl⟩)
          rcases ht with ⟨hu, ha⟩ | ha
          · refine wp_pure hc hh ?_ hv.u hk
            simp [execOp, ho, Instr.sliceAt, Instr.slice, run_underlying hu, run_underlying (tArr_some ha), e2, asAddr, hr, run_sizeOf hz]
          · refine wp_pure hc hh ?_ hv.u hk
            simp [execOp, ho, Instr.sliceAt, run_underlying (tArr_some ha), e2, Instr.sureAddr, hr, run_sizeOf hz]
        | false =>
          rw [hb, cond_false] at hk
          have hnl : ¬ n = l := fun e => by rw [bt e.symm] at hb; cases hb
          have hv : VRel Γ (.ms b (q + l * z) (e1 - l) (n - l) z) (.slice (some ⟨B, q + l * z, none⟩) (e1 - l) (n - l)) := .ms _ _ _ _ _ _ _ hB (Nat.le_refl _)
          rcases ht with ⟨hu, ha⟩ | ha
          · refine wp_pure hc hh ?_ hv.u hk
            simp [execOp, ho, Instr.sliceAt, Instr.slice, run_underlying hu, run_underlying (tArr_some ha), e2, asAddr, hr, run_sizeOf hz, hnl, addr_add]
          · refine wp_pure hc hh ?_ hv.u hk
            simp [execOp, ho, Instr.sliceAt, run_underlying (tArr_some ha), e2, Instr.sureAddr, hr, run_sizeOf hz, hnl, addr_add]
      · cases hk
    · cases hk
  · cases hk
end Go.AM
