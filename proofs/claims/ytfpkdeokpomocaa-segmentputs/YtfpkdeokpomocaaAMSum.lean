import Derived.Test.YtfpkdeokpomocaaAMRow3
set_option linter.constructorNameAsVariable false
set_option linter.unusedVariables false
set_option linter.unusedSimpArgs false
set_option linter.unusedVariables false
set_option linter.unusedSimpArgs false
namespace Go.AM
open Go
variable {P : Program}
mutual
def pureV : Val → Bool
  | .ptr _ _ => false
  | .ms _ _ _ _ _ => false
  | .map _ => false
  | .ep cs => pureVs cs
  | .sl (.tok _) _ _ => false
  | .sl _ _ l => pureVs l
  | .func _ cs => pureVs cs
  | .agg cs => pureVs cs
  | .tup cs => pureVs cs
  | .iface _ v => pureV v
  | _ => true
def pureVs : List Val → Bool
  | [] => true
  | v :: l => pureV v && pureVs l
 end
theorem pureVs_getD : ∀ {l : List Val} (i : Nat), pureVs l = true → pureV (l.getD i .unk) = true
  | [], i, _ => by simp [pureV]
  | v :: l, 0, h => by simp only [pureVs, Bool.and_eq_true] at h; simpa using h.1
  | v :: l, i + 1, h => by simp only [pureVs, Bool.and_eq_true] at h; simpa using pureVs_getD i h.2
theorem pureVs_append : ∀ {a b : List Val}, pureVs a = true → pureVs b = true → pureVs (a ++ b) = true
  | [], b, _, h => h
  | v :: a, b, h, k => by
    simp only [pureVs, Bool.and_eq_true, List.cons_append] at h ⊢
    exact ⟨h.1, pureVs_append h.2 k⟩
theorem pureV_cells {v : Val} (h : pureV v = true) : pureVs (cells v) = true := by
  cases v <;> simp_all [cells, pureVs, pureV]
theorem pureVs_flat : ∀ {l : List Val}, pureVs l = true → pureVs (l.flatMap cells) = true
  | [], _ => rfl
  | v :: l, h => by
    simp only [pureVs, Bool.and_eq_true] at h
    rw [List.flatMap_cons]
    exact pureVs_append (pureV_cells h.1) (pureVs_flat h.2)
theorem VRel.pure {Γ Δ : Gam} (hpr : ∀ B o v, Γ.pr B o = some v → Δ.pr B o = some v) {v : Val} {x : Value} (h : VRel Γ v x) (hp : pureV v = true) : VRel Δ v x := by
  induction h with
  | bool b => exact .bool b
  | int k n => exact .int k n
  | str l s h => exact .str l s h
  | nilp => exact .nilp
  | ptr b o B h => cases hp
  | ep cs B o f h r ih =>
    simp only [pureV] at hp
    exact .ep cs B o f (fun i hi => ⟨hpr _ _ _ (h i hi).1, (h i hi).2⟩) (fun i hi => ih i hi (pureVs_getD i hp))
  | sl0 w z c a h => exact .sl0 w z c a h
  | nls z => exact .nls z
  | sl w z l B o c f hw hcap hz h r ih =>
    have hpl : pureVs l = true := by
      cases w with
      | tok t => simp [pureV] at hp
      | _ => simpa [pureV] using hp
    refine .sl w z l B o c f ?_ hcap hz (fun i hi => ⟨hpr _ _ _ (h i hi).1, (h i hi).2⟩) (fun i hi => ih i hi (pureVs_getD i (pureVs_flat hpl)))
    cases w with
    | tok t => simp [pureV] at hp
    | _ => exact hw
  | ms b o n c z c' B h hc => cases hp
  | func f cs vs hl h ih =>
    simp only [pureV] at hp
    exact .func f cs vs hl (fun i hi hne => ih i hi hne (pureVs_getD i hp))
  | agg cs vs hl h1 h ih =>
    simp only [pureV] at hp
    exact .agg cs vs hl h1 (fun i hi => ih i hi (pureVs_getD i hp))
  | tup cs vs hl h ih =>
    simp only [pureV] at hp
    exact .tup cs vs hl (fun i hi hne => ih i hi hne (pureVs_getD i hp))
  | iface t v x h ih => exact .iface t v x (ih (by simpa [pureV] using hp))
  | nili => exact .nili
  | map b B h => cases hp
  | nilm => exact .nilm
  | nilf => exact .nilf
mutual
def roV : Val → Val
  | .sl (.tok _) z l => .sl .ro z (roVs l)
  | .sl w z l => .sl w z (roVs l)
  | .agg cs => .agg (roVs cs)
  | .tup cs => .tup (roVs cs)
  | v => v
def roVs : List Val → List Val
  | [] => []
  | v :: l => roV v :: roVs l
 end
theorem roVs_len : ∀ l : List Val, (roVs l).length = l.length
  | [] => rfl
  | v :: l => by simp [roVs, roVs_len l]
theorem roVs_getD : ∀ (l : List Val) (i : Nat), (roVs l).getD i .unk = roV (l.getD i .unk)
  | [], i => by simp [roVs, roV]
  | v :: l, 0 => by simp [roVs]
  | v :: l, i + 1 => by simpa [roVs] using roVs_getD l i
theorem roVs_append : ∀ (a b : List Val), roVs (a ++ b) = roVs a ++ roVs b
  | [], b => rfl
  | v :: a, b => by simp [roVs, roVs_append a b]
theorem cells_roV (v : Val) : cells (roV v) = roVs (cells v) := by
  cases v with
  | sl w z l => cases w <;> simp [roV, cells, roVs]
  | _ => simp [roV, cells, roVs]
theorem flat_roVs : ∀ (l : List Val), (roVs l).flatMap cells = roVs (l.flatMap cells)
  | [] => rfl
  | v :: l => by simp [roVs, cells_roV, flat_roVs l, roVs_append]
theorem roV_unk {v : Val} (h : v = .unk) : roV v = .unk := by subst h; rfl
theorem VRel.roV {Γ : Gam} {v : Val} {x : Value} (h : VRel Γ v x) : VRel Γ (roV v) x := by
  induction h with
  | sl0 w z c a h => rcases h with rfl | ⟨rfl, rfl⟩
                     · exact .sl0 _ z c a (.inl rfl)
                     · exact .sl0 _ z 0 a (.inr ⟨rfl, rfl⟩)
  | nls z => exact .nls z
  | sl w z l B o c f hw hcap hz h r ih =>
    have key : ∀ w', w'.fits Γ B o l.length c z → VRel Γ (.sl w' z (roVs l)) (.slice (some ⟨B, o, none⟩) l.length c) := fun w' hw' => by
      have hl := roVs_len l
      have hfl : ((roVs l).flatMap cells).length = (l.flatMap cells).length := by rw [flat_roVs, roVs_len]
      rw [← hl]
      refine .sl w' z (roVs l) B o c f (by rw [hl]; exact hw') (by rw [hl]; exact hcap) (fun x hx => ?_) (fun i hi => h i (by omega)) (fun i hi => ?_)
      · obtain ⟨i, hi⟩ := List.getElem?_of_mem hx
        have e1 : (roVs l).getD i .unk = x := by simp [List.getD_eq_getElem?_getD, hi]
        rw [roVs_getD] at e1
        have hil : i < l.length := by rw [← hl]; exact (List.getElem?_eq_some_iff.1 hi).1
        rw [← e1, cells_roV, roVs_len]
        refine hz _ ?_
        simp [List.getD_eq_getElem?_getD, hil]
      · rw [flat_roVs, roVs_getD]
        exact ih i (by omega)
    cases w with
    | nl => exact hw.elim
    | ex => exact key .ex hw
    | ro => exact key .ro hw
    | tok t => exact key .ro trivial
  | agg cs vs hl h1 h ih =>
    exact .agg _ vs (by rw [roVs_len]; exact hl) (fun i hi => h1 i (by rw [← roVs_len]; exact hi)) (fun i hi => by rw [roVs_getD]; exact ih i (by rw [← roVs_len]; exact hi))
  | bool b => exact .bool b
  | int k n => exact .int k n
  | str l s h => exact .str l s h
  | nilp => exact .nilp
  | ptr b o B h => exact .ptr b o B h
  | ep cs B o f h r ih => exact .ep cs B o f h r
  | ms b o n c z c' B h hc => exact .ms b o n c z c' B h hc
  | func f cs vs hl h ih => exact .func f cs vs hl h
  | tup cs vs hl h ih => exact .tup _ vs (by rw [roVs_len]; exact hl) (fun i hi hne => by rw [roVs_getD] at hne ⊢; exact ih i (by rw [← roVs_len]; exact hi) (fun e => hne (roV_unk e)))
  | iface t v x h ih => exact .iface t v x h
  | nili => exact .nili
  | map b B h => exact .map b B h
  | nilm => exact .nilm
  | nilf => exact .nilf
theorem ARel.roVs {Γ : Gam} {cs : List Val} {vs : List Value} (h : ARel Γ cs vs) : ARel Γ (roVs cs) vs := by
  refine ⟨by rw [roVs_len]; exact h.len, fun i hi => ?_⟩
  rw [roVs_len] at hi
  rw [roVs_getD]
  intro hne
  exact (h.rel i hi (fun e => hne (roV_unk e))).roV
def Gam.cellsOnly (Γ : Gam) : Gam := { bl := fun _ => none, ro := fun _ => none, pr := Γ.pr, tk := fun _ _ => none }
theorem sum_ok {tbl : Nat → Option Fn} (hcall : ∀ N n, CallOk P N (run tbl n)) {n f : Nat} {args : List Val} {v : Val} {h0 : Heap} (hrun : run tbl n f args heap0 = some (v, h0)) (hpa : pureVs args = true) (hpv : pureV (roV v) = true)
    {Γ : Gam} {h : Heap} {w : World} {N : Nat} {vs : List Value} (hh : HRel Γ h w N) (hN : N ≤ w.heap.size) (hr : ARel Γ args vs) :
    Calls P f vs.toArray w fun e w' => ∃ x Δ, e = .returned x ∧ Γ.Le Δ ∧ Frame Γ Δ w w' ∧ HRel Δ h w' N ∧ URel Δ (roV v) x := by
  have h1 : HRel Γ.cellsOnly heap0 w w.heap.size :=
    ⟨fun b x h => (by cases h), fun b B h => (by cases h), fun B r h => (by cases h), fun B o v hv => ⟨(hh.prok B o v hv).1, fun b e => (by cases e)⟩, fun t n x h => (by cases h), fun b l h => (by cases h), fun t n h => (by cases h), fun b l h => (by cases h)⟩
  have h2 : ARel Γ.cellsOnly args vs := ⟨hr.len, fun i hi hne => VRel.pure (Γ := Γ) (Δ := Γ.cellsOnly) (fun _ _ _ h => h) (hr.rel i hi hne) (pureVs_getD i hpa)⟩
  refine ((hcall w.heap.size n).ok f args heap0 v h0 hrun Γ.cellsOnly w vs h1 (Nat.le_refl _) h2).mono fun e w' he => ?_
  obtain ⟨x, Δ, rfl, hle, hfr, hh', hv⟩ := he
  have hblk : ∀ B, B < w.heap.size → w'.heap[B]? = w.heap[B]? := fun B hB => hfr.block B hB rfl
  have hprn : ∀ B o, B < w.heap.size → Δ.pr B o = Γ.pr B o := fun B o hB => hfr.prn B o hB rfl
  let Θ : Gam := { Γ with pr := Δ.pr }
  have hΘ : Γ.Le Θ := ⟨fun _ _ h => h, fun _ _ h => h, fun B o v h => hle.pr B o v h, fun _ _ _ h => h⟩
  refine ⟨x, Θ, rfl, hΘ, ⟨hfr.os, hfr.tape, hfr.output, hfr.size, fun B hB _ => hblk B hB, fun _ _ h => h, fun B o hB _ => hprn B o hB⟩, ?_, fun hne => VRel.pure (Γ := Δ) (Δ := Θ) (fun _ _ _ h => h) (hv (fun e => hne (roV_unk e))).roV hpv⟩
  refine ⟨hh.lt, hh.bllt, fun B r hr => ?_, fun B o v hv => ⟨(hh'.prok B o v hv).1, fun b hb => ?_⟩, hh.tklt, fun b l hb => ?_, fun t n ht => ?_, hh.maps⟩
  · have := hh.rolt B r hr
    exact ⟨this.1, Nat.lt_of_lt_of_le this.2 hfr.size⟩
  · have hb' : Γ.ro B = some (.blk b) := hb
    have hB := (hh.rolt B _ hb').2
    have hv' : Γ.pr B o = some v := by rw [← hprn B o hB]; exact hv
    exact (hh.prok B o v hv').2 b hb'
  · obtain ⟨B, c, e, fr, k1, k2, k3, k4⟩ := hh.cells b l hb
    exact ⟨B, c, e, fr, k1, by rw [hblk B (lt_of_heap k2)]; exact k2, k3, fun i hi => ⟨(k4 i hi).1.mono hΘ, (k4 i hi).2⟩⟩
  · obtain ⟨B, q, c, z, arr, e, fr, k1, k2, k3, k4, k5⟩ := hh.toks t n ht
    exact ⟨B, q, c, z, arr, e, fr, k1, by rw [hblk B (lt_of_heap k2)]; exact k2, k3, fun i hi => (hprn B i (lt_of_heap k2)).trans (k4 i hi), k5⟩
def sumF (G : List Val → Option Val) : List Val → Heap → R := fun args h => match G (roVs args) with
  | some v => some (v, h)
  | none => none
theorem sum_prim {tbl : Nat → Option Fn} (hcall : ∀ N n, CallOk P N (run tbl n)) {f : Nat} (hf : okFun P f = true) {G : List Val → Option Val} (hG : ∀ args v, G args = some v → pureVs args = true ∧ pureV v = true ∧ ∃ n h' v0, run tbl n f args heap0 = some (v0, h') ∧ v = roV v0) (N : Nat) :
    PrimOk P N f (sumF G) := by
  refine ⟨hf, fun args h v h' hk Γ w vs hh hN hr => ?_⟩
  unfold sumF at hk
  split at hk
  · rename_i v' hv
    simp only [Option.some.injEq, Prod.mk.injEq] at hk
    obtain ⟨rfl, rfl⟩ := hk
    obtain ⟨h1, h2, n, h0, v0, h3, rfl⟩ := hG _ _ hv
    exact sum_ok hcall h3 h1 h2 hh hN hr.roVs
  · cases hk
end Go.AM
