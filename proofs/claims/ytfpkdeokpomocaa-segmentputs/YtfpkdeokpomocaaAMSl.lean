import Derived.Test.YtfpkdeokpomocaaAMStore
set_option linter.constructorNameAsVariable false
set_option linter.unusedVariables false
set_option linter.unusedSimpArgs false
set_option linter.unusedVariables false
set_option linter.unusedSimpArgs false
namespace Go.AM
open Go
variable {P : Program} {N : Nat} {Γ : Gam} {h : Heap} {w : World} {σ : Slots} {a : Act} {o : GOper} {next : Act → World → Prop}
  {Q : _root_.Go.Exit → Act → World → Prop} {r : Val × Heap} {K : Val → Heap → R}
theorem VRel.sl_of {u : Own} {z : Nat} {l : List Val} {B q c : Nat} {vs : List Value} (hu : u.fits Γ B q l.length c z) (hcap : l.length ≤ c) (hz : ∀ x ∈ l, (cells x).length = z)
    (hp : ∀ i v, vs[i]? = some v → Γ.pr B (q + i) = some v) (hr : CRel Γ (l.flatMap cells) vs) : VRel Γ (.sl u z l) (.slice (some ⟨B, q, none⟩) l.length c) := by
  refine .sl u z l B q c (fun i => vs.getD i undef) hu hcap hz (fun i hi => ⟨hp i _ ?_, hr.one i hi⟩) hr.rel
  have hi' : i < vs.length := by rw [← hr.len]; exact hi
  simp [List.getD_eq_getElem?_getD, hi']
theorem wp_newsl {arr : Array Value} {e : TypeId} {l : List Val} {z n : Nat} {w1 : World} (hw1 : w1 = w ∨ w1 = w.drew) (hc : Cont Γ w N K r a o.dst next) (hh : HRel Γ h w N)
    (hx : (execOp a.eval o).run P w = .ok (.value (.slice (some ⟨w.heap.size, 0, none⟩) n n)) (w1.alloc (.cells arr e))) (hn : n = l.length)
    (hz : ∀ x ∈ l, (cells x).length = z) (hr : CRel Γ (l.flatMap cells) arr.toList) (hk : K (.sl .ex z l) h = some r) : o.wp P a w next Q := by
  subst hn
  have hh1 : HRel Γ h w1 N := by
    rcases hw1 with rfl | rfl
    · exact hh
    · exact hh.drew
  have hs1 : w1.heap.size = w.heap.size := by rcases hw1 with rfl | rfl <;> rfl
  have hf1 : Frame Γ Γ w w1 := by
    rcases hw1 with rfl | rfl
    · exact .refl Γ _
    · exact .drew Γ w
  refine wp_val hx (hc _ h _ _ (Γ.addPr w1.heap.size (fun i => arr[i]?)) hk (Gam.addPr_le hh1 _) (hf1.trans (Frame.alloc Γ w1 _ (fun _ _ hr => hr) fun B q hB _ => by simp only [Gam.addPr]; rw [if_neg (by omega)])) (hh1.addPr arr e (0, 0) _ (fun _ _ h => h)) (VRel.u ?_))
  rw [← hs1]
  refine VRel.sl_of (by rfl) (Nat.le_refl _) hz (fun i v hv => ?_) (hr.mono (Gam.addPr_le hh1 _))
  simp only [Gam.addPr, if_pos, Nat.zero_add]
  simpa using hv
theorem evs_len (σ : Slots) : ∀ xs : List X, (evs σ xs).length = xs.length
  | [] => rfl
  | x :: xs => by simp [evs, evs_len σ xs]
def okSl : Nat → List X → List (Nat × Operand) → Bool
  | _, [], [] => true
  | k, x :: xs, (i, y) :: l => k.beq i && okX x y && okSl (k + 1) xs l
  | _, _, _ => false
theorem fill_sl (hs : SRel Γ σ a.tmps) {z : Nat} (h0 : z ≠ 0) : ∀ (k : Nat) (xs : List X) (l : List (Nat × Operand)) (acc : Array Value), okSl k xs l = true → (∀ v ∈ evs σ xs, (cells v).length = z) → acc.size = (k + xs.length) * z →
    ∃ V : Array Value, Instr.fill (fun i => some (i * z, z)) acc (l.map fun x => (x.1, a.eval x.2)) = some V ∧ V.size = acc.size ∧ V.toList.take (k * z) = acc.toList.take (k * z) ∧ CRel Γ ((evs σ xs).flatMap cells) (V.toList.drop (k * z))
  | k, [], [], acc, _, _, hsz => ⟨acc, rfl, rfl, rfl, by
      have : acc.toList.drop (k * z) = [] := List.drop_eq_nil_of_le (by simp at hsz ⊢; omega)
      rw [this]; exact CRel.nil Γ⟩
  | k, x :: xs, (i, y) :: l, acc, hok, hz, hsz => by
    simp only [okSl, Bool.and_eq_true] at hok
    obtain ⟨⟨h1, h2⟩, h3⟩ := hok
    have := Nat.eq_of_beq_eq_true h1
    subst this
    have hzx := hz (ev σ x) (by simp [evs])
    obtain ⟨hne, hnt⟩ := cells_ne_tup hzx h0
    have hv := (okX_sound hs h2 hne).cellsR hnt
    have hvl : (a.eval y).cells.size = z := by have := hv.len; simp at this; omega
    simp only [List.length_cons] at hsz
    have hkz : (k + (xs.length + 1)) * z = k * z + z + xs.length * z := by rw [Nat.add_mul, Nat.add_mul]; omega
    have hf := foldl_set (a.eval y).cells.toList 0 (k * z) acc (by simp [hvl]; omega)
    have hfs : ((a.eval y).cells.zipIdx.foldl (fun cs (x : Value × Nat) => cs.setIfInBounds (k * z + x.2) x.1) acc).toList = acc.toList.take (k * z) ++ (a.eval y).cells.toList ++ acc.toList.drop (k * z + z) := by
      rw [← Array.foldl_toList, Array.toList_zipIdx, hf]
      simp [hvl]
    obtain ⟨acc1, hacc1⟩ : ∃ x, x = ((a.eval y).cells.zipIdx.foldl (fun cs (x : Value × Nat) => cs.setIfInBounds (k * z + x.2) x.1) acc) := ⟨_, rfl⟩
    rw [← hacc1] at hfs
    have hal : acc.toList.length = acc.size := Array.length_toList
    have htl : (acc.toList.take (k * z)).length = k * z := by rw [List.length_take]; omega
    have hcl : (a.eval y).cells.toList.length = z := by rw [Array.length_toList]; exact hvl
    have hs1 : acc1.size = acc.size := by
      rw [← Array.length_toList, hfs, List.length_append, List.length_append, htl, hcl, List.length_drop]; omega
    obtain ⟨V, g1, g2, g3, g4⟩ := fill_sl hs h0 (k + 1) xs l acc1 h3 (fun v hv => hz v (by simp [evs, hv])) (by rw [hs1, hsz]; congr 1; omega)
    have hkz1 : (k + 1) * z = k * z + z := by rw [Nat.add_mul]; omega
    have ht1 : acc1.toList.take ((k + 1) * z) = acc.toList.take (k * z) ++ (a.eval y).cells.toList := by
      rw [hfs, hkz1, List.take_append_of_le_length (by rw [List.length_append, htl, hcl]; exact Nat.le_refl _), List.take_of_length_le (by rw [List.length_append, htl, hcl]; exact Nat.le_refl _)]
    rw [ht1] at g3
    have hVd : V.toList.drop (k * z) = (a.eval y).cells.toList ++ V.toList.drop ((k + 1) * z) := by
      have e1 : V.toList = (acc.toList.take (k * z) ++ (a.eval y).cells.toList) ++ V.toList.drop ((k + 1) * z) := by rw [← g3, List.take_append_drop]
      have e2 := congrArg (List.drop (k * z)) e1
      rw [List.append_assoc, List.drop_append_of_le_length (by rw [htl]; exact Nat.le_refl _), show (acc.toList.take (k * z)).drop (k * z) = [] from List.drop_eq_nil_of_le (by rw [htl]; exact Nat.le_refl _), List.nil_append] at e2
      exact e2
    refine ⟨V, ?_, by rw [g2, hs1], ?_, ?_⟩
    · simp only [List.map_cons, Instr.fill]
      rw [if_neg (by simp [hvl]; omega), ← hacc1]
      exact g1
    · have := congrArg (List.take (k * z)) g3
      rw [List.take_take, Nat.min_eq_left (by omega), List.take_append_of_le_length (by rw [htl]; exact Nat.le_refl _), List.take_take, Nat.min_self] at this
      exact this
    · rw [hVd]
      simp only [evs, List.flatMap_cons]
      exact hv.append g4
  | _, [], _ :: _, _, h, _, _ => by simp [okSl] at h
  | _, _ :: _, [], _, h, _, _ => by simp [okSl] at h
theorem sd_bsl (z : Nat) (xs : List X) (t e : TypeId) (len : Nat) (ps : Array (Nat × Operand)) (ho : o.op = .buildSlice t len ps) (ht : tSl P t = some e) (hz : tSize P e = some z) (zv : Value) (hzv : tZero P e = some zv)
    (h0 : (z.beq 0) = false) (hzc : zv.cells.size = z) (hlen : len = xs.length) (hsmall : len * z ≤ 2 ^ 24) (hl0 : len ≠ 0) (h1 : okSl 0 xs ps.toList = true) (hs : SRel Γ σ a.tmps) (hh : HRel Γ h w N)
    (hk : bslC z (evs σ xs) (fun v => K v h) = some r) (hc : Cont Γ w N K r a o.dst next) : o.wp P a w next Q := by
  unfold bslC at hk
  cases hb : ((evs σ xs).all fun v => (cells v).length.beq z) with
  | false => rw [hb] at hk; cases hk
  | true =>
    rw [hb, cond_true] at hk
    have hall : ∀ v ∈ evs σ xs, (cells v).length = z := fun v hv => Nat.eq_of_beq_eq_true (List.all_eq_true.1 hb v hv)
    have hz0 : z ≠ 0 := fun e => by rw [bt e] at h0; cases h0
    subst hlen
    obtain ⟨V, g1, g2, g3, g4⟩ := fill_sl hs hz0 0 xs ps.toList ((Array.range (xs.length * z)).map (zv.cells[· % zv.cells.size]!)) h1 hall (by simp)
    simp only [Nat.zero_mul, List.drop_zero] at g4
    have hzi : ∃ ie, P.info? e = some ie ∧ ie.size = z ∧ ie.zero = some zv := by
      unfold tSize at hz
      unfold tZero at hzv
      obtain ⟨ie, hie, h1⟩ := Option.map_eq_some_iff.1 hz
      rw [hie] at hzv
      exact ⟨ie, hie, h1, by simpa using hzv⟩
    obtain ⟨ie, hie, hies, hiez⟩ := hzi
    refine wp_newsl (arr := V) (e := e) (n := xs.length) (.inl rfl) hc hh ?_ (by rw [evs_len]) hall g4 hk
    have hpos : ¬ xs.length * z = 0 := by
      intro e; rcases Nat.mul_eq_zero.1 e with e | e
      · exact hl0 e
      · exact hz0 e
    have hps : (ps.map fun (i, x) => (i, a.eval x)).toList = ps.toList.map fun x => (x.1, a.eval x.2) := by rw [Array.toList_map]
    have hsm : ¬ xs.length * z > 2 ^ 24 := by omega
    subst hies
    simp only [execOp, ho, Instr.buildSlice, run_underlying (tSl_some ht), sizeOf, typeInfo, zeroValue, hie, hiez, Sem.run_bind, Sem.run_pure, run_program, Result.andThen_ok, if_neg hsm, if_neg hpos, hps, g1, newRow, run_newObj, World.alloc_eq]
theorem sd_bsl0 (z : Nat) (t e : TypeId) (ps : Array (Nat × Operand)) (ho : o.op = .buildSlice t 0 ps) (ht : tSl P t = some e) (hz : tSize P e = some z) (h1 : okSl 0 [] ps.toList = true) (hh : HRel Γ h w N)
    (hk : bslC z (evs σ []) (fun v => K v h) = some r) (hc : Cont Γ w N K r a o.dst next) : o.wp P a w next Q := by
  have hps : ps.toList = [] := by
    cases hp : ps.toList with
    | nil => rfl
    | cons x l => rw [hp] at h1; simp [okSl] at h1
  have hps' : ps = #[] := by apply Array.ext'; simpa using hps
  subst hps'
  refine wp_newsl (arr := #[]) (e := e) (n := 0) (l := []) (z := z) (.inl rfl) hc hh ?_ rfl (fun x hx => (by cases hx)) (.nil Γ) (by simpa [bslC, evs] using hk)
  unfold tSize at hz
  obtain ⟨ie, hie, h2⟩ := Option.map_eq_some_iff.1 hz
  subst h2
  simp [execOp, ho, Instr.buildSlice, run_underlying (tSl_some ht), sizeOf, typeInfo, hie, newRow, Instr.fill, World.alloc_eq]
  have e0 : (Array.map (fun x => (default : Value)) (Array.range 0)) = #[] := by apply Array.ext'; simp
  rw [e0]
end Go.AM
