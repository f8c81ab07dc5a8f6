import Derived.Test.YtfpkdeokpomocaaG44
set_option linter.constructorNameAsVariable false
set_option linter.unusedVariables false
set_option linter.unusedSimpArgs false
set_option maxRecDepth 100000
set_option linter.unusedVariables false
set_option linter.unusedSimpArgs false
namespace Go.AM.T
open Go Go.AM
def t3 : TT := .node 64 (.node 63 (.leaf 16 F16) (.leaf 63 (.prim (sumF gROpen)))) (.node 69 (.leaf 64 F64) (.node 82 (.leaf 69 (.prim (sumF gRSeal))) (.leaf 82 F82)))
theorem t3_16 : t3.get 16 = some F16 := rfl
theorem t3_63 : t3.get 63 = some (.prim (sumF gROpen)) := rfl
theorem t3_64 : t3.get 64 = some F64 := rfl
theorem t3_69 : t3.get 69 = some (.prim (sumF gRSeal)) := rfl
theorem t3_82 : t3.get 82 = some F82 := rfl
theorem t3_r16 {m : Nat} (hm : 0 < m) (h : Heap) : run t3.get m 16 [] h = s16 (run t3.get (m - 1)) (m - 1) h := by
  obtain ⟨m, rfl⟩ : ∃ q, m = q + 1 := ⟨m - 1, by omega⟩
  rw [run_succ t3_16, e16]; rfl
theorem t3_r63 {m : Nat} (hm : 0 < m) (xs : List Val) (h : Heap) : run t3.get m 63 xs h = ((sumF gROpen)) xs h := by
  obtain ⟨m, rfl⟩ : ∃ q, m = q + 1 := ⟨m - 1, by omega⟩
  rw [run_succ t3_63]; rfl
theorem t3_r64 {m : Nat} (hm : 0 < m) (a0 : Val) (a1 : Val) (a2 : Val) (a3 : Val) (a4 : Val) (h : Heap) : run t3.get m 64 [a0, a1, a2, a3, a4] h = s64 (run t3.get (m - 1)) (m - 1) a0 a1 a2 a3 a4 h := by
  obtain ⟨m, rfl⟩ : ∃ q, m = q + 1 := ⟨m - 1, by omega⟩
  rw [run_succ t3_64, e64]; rfl
theorem t3_r69 {m : Nat} (hm : 0 < m) (xs : List Val) (h : Heap) : run t3.get m 69 xs h = ((sumF gRSeal)) xs h := by
  obtain ⟨m, rfl⟩ : ∃ q, m = q + 1 := ⟨m - 1, by omega⟩
  rw [run_succ t3_69]; rfl
theorem t3_r82 {m : Nat} (hm : 0 < m) (a0 : Val) (a1 : Val) (a2 : Val) (a3 : Val) (h : Heap) : run t3.get m 82 [a0, a1, a2, a3] h = s82 (run t3.get (m - 1)) (m - 1) a0 a1 a2 a3 h := by
  obtain ⟨m, rfl⟩ : ∃ q, m = q + 1 := ⟨m - 1, by omega⟩
  rw [run_succ t3_82, e82]; rfl
abbrev Sec := List (List UInt8)
def secC (x : Sec) : List Val := x.map Val.str
def secV (x : Sec) : Val := .agg (secC x)
def putM (st ct : Nat) : Nat → List (List UInt8) → Sec → Sec
  | _, [], x => x
  | a, p :: ps, x => putM st ct (a + 1) ps (x.set a (sealB st ct p))
def opens (st ct : Nat) (s : List UInt8) : Option (List UInt8) := match openM s with
  | some (st', ct', d) => if st' = st ∧ ct' = ct then some d else none
  | none => none
def runM (st ct : Nat) : Sec → List UInt8
  | [] => []
  | s :: x => match opens st ct s with
    | some d => d ++ runM st ct x
    | none => []
theorem putM_len (st ct : Nat) : ∀ (ps : List (List UInt8)) (a : Nat) (x : Sec), (putM st ct a ps x).length = x.length
  | [], a, x => rfl
  | p :: ps, a, x => by rw [putM, putM_len st ct ps]; simp
theorem secC_len (x : Sec) : (secC x).length = x.length := by simp [secC]
theorem openM_len {s : List UInt8} {r : Nat × Nat × List UInt8} (h : openM s = some r) : r.2.2.length = 52 ∧ r.1 < 4294967296 ∧ r.2.1 < 65536 ∧ s.length = 64 := by
  unfold openM at h
  split at h
  · cases h
  · rename_i hc
    split at h
    · cases h
    · cases h
      have hl : s.length = 64 := by
        by_cases c : s.length = 64
        · exact c
        · exact absurd (.inl c) hc
      have l4 : (s.take 4).length = 4 := by simp; omega
      have l2 : ((s.take 6).drop 4).length = 2 := by simp; omega
      have b1 := rd_lt' l4
      have b2 := rd_lt' l2
      refine ⟨by simp; omega, by simpa using b1, by simpa using b2, hl⟩
theorem runM_len (st ct : Nat) : ∀ x : Sec, (runM st ct x).length ≤ 52 * x.length
  | [] => by simp [runM]
  | s :: x => by
    have ih := runM_len st ct x
    rw [runM]
    split
    · rename_i d hd
      unfold opens at hd
      split at hd
      · rename_i st' ct' d' ho
        split at hd
        · cases hd
          have := (openM_len ho).1
          simp at this ⊢; omega
        · cases hd
      · cases hd
    · simp
section
variable {m : Nat} {h : Heap}
theorem set_cells (x : Sec) (a : Nat) (s : List UInt8) (ha : a < x.length) : (secC x).take a ++ cells (.str s) ++ (secC x).drop (a + 1) = secC (x.set a s) := by
  simp only [cells_str]
  rw [secC, secC, List.map_set, List.set_eq_take_append_cons_drop, if_pos (by simpa using ha), List.append_assoc]
  rfl
theorem loop_put {q : Nat} (hq : 3 ≤ q) (n : Nat) {u : Own} {st a ct b5 b10 : Nat} {ps : List (List UInt8)} (hst : st < 4294967296) (hct : ct < 65536) (hps : ∀ p ∈ ps, p.length = 52) (hne : b5 ≠ b10) (hb : a + ps.length ≤ 16) : ∀ (k i : Nat), i + k = ps.length → ∀ (m : Nat), k < m → ∀ (x : Sec) (h : Heap), x.length = 16 → h.blk b5 = some (.cells (secC x)) → (∃ z, z.length = 16 ∧ h.blk b10 = some (.cells z)) →
    ∃ h', iter m (fun again0 ys h => s64_l0 (run t3.get q) n again0 (.int .u32 st) (.int .i64 a) (.int .i64 ct) (.ptr b5 0) (.ptr b10 0) (.sl u 1 (ps.map Val.str)) (.int .i64 ps.length) (getN ys 0) h) [.int .i64 i] h = some (secV (putM st ct (a + i) (ps.drop i) x), h')
  | 0, i, hi, m, hm, x, h, hx, hb5, ⟨z, hz, hb10⟩ => by
    obtain ⟨m, rfl⟩ : ∃ q, m = q + 1 := ⟨m - 1, by omega⟩
    have : i = ps.length := by omega
    subst this
    have g1 : icmp .lt (ps.length : Int) (ps.length : Int) = false := decide_eq_false (by omega)
    have l1 : ∀ K, ldC true 16 (.ptr b5 0) h K = K (secV x) := fun K => by
      rw [ldC_p hb5 (by rw [secC_len, hx]; decide), List.drop_zero, List.take_of_length_le (by rw [secC_len, hx]; decide)]; rfl
    have s1 : ∀ K, stC 16 (.ptr b10 0) (secV x) h K = K (h.put b10 (.cells (secC x))) := fun K => by
      rw [stC_p (n := 16) hb10 (by rw [secV, cells_agg, secC_len, hx]) (by omega), List.take_zero, List.drop_of_length_le (by omega)]
      simp [secV]
    have l2 : ∀ K, ldC true 16 (.ptr b10 0) (h.put b10 (.cells (secC x))) K = K (secV x) := fun K => by
      rw [ldC_p (blk_put_same _ _) (by rw [secC_len, hx]; decide), List.drop_zero, List.take_of_length_le (by rw [secC_len, hx]; decide)]; rfl
    refine ⟨h.put b10 (.cells (secC x)), ?_⟩
    rw [iter_succ]
    simp only [getN_0, s64_l0, cmC_int, g1, cnd_f, l1, s1, l2, List.drop_length, putM]
  | k + 1, i, hi, m, hm, x, h, hx, hb5, ⟨z, hz, hb10⟩ => by
    obtain ⟨m, rfl⟩ : ∃ q, m = q + 1 := ⟨m - 1, by omega⟩
    have hil : i < ps.length := by omega
    have hpl := hps ps[i] (List.getElem_mem hil)
    let H := h.put b5 (.cells (secC (x.set (a + i) (sealB st ct ps[i]))))
    obtain ⟨h', ih⟩ := loop_put hq n (u := u) hst hct hps hne hb k (i + 1) (by omega) m (by omega) (x.set (a + i) (sealB st ct ps[i])) H (by simpa using hx) (blk_put_same _ _) ⟨z, hz, by rw [blk_put_ne _ (Ne.symm hne)]; exact hb10⟩
    refine ⟨h', ?_⟩
    rw [iter_succ]
    generalize iter m (fun again0 ys h => s64_l0 (run t3.get q) n again0 (.int .u32 st) (.int .i64 a) (.int .i64 ct) (.ptr b5 0) (.ptr b10 0) (.sl u 1 (ps.map Val.str)) (.int .i64 ps.length) (getN ys 0) h) = G at ih ⊢
    have g1 : icmp .lt (i : Int) (ps.length : Int) = true := decide_eq_true (by omega)
    have e1 : ∀ K, ixsC 1 (.sl u 1 (ps.map Val.str)) (.int .i64 (i : Int)) K = K (.ep [.str ps[i]]) := fun K => ixsC_sl (v := .str ps[i]) (by rw [List.getElem?_map, List.getElem?_eq_getElem hil]; rfl)
    have e2 : ∀ K, ldC false 1 (.ep [.str ps[i]]) h K = K (.str ps[i]) := fun K => rfl
    have e3 : IntKind.i64.wrap ((a : Int) + (i : Int)) = ((a + i : Nat) : Int) := by rw [wrap_i64 (by omega) (by omega)]; rfl
    have e4 : ∀ G, run t3.get q 69 [.int .u32 (st : Int), .int .i64 (ct : Int), .str ps[i]] G = some (.str (sealB st ct ps[i]), G) := fun G => by rw [t3_r69 (by omega)]; exact p_rseal hst hct (by omega)
    have e5 : ∀ K, ixpC 16 1 (.ptr b5 0) (.int .i64 ((a + i : Nat) : Int)) K = K (.ptr b5 (a + i)) := fun K => by rw [ixpC_p (by omega) (by omega), Int.toNat_natCast, Nat.zero_add, Nat.mul_one]
    have e6 : ∀ K, stC 1 (.ptr b5 (a + i)) (.str (sealB st ct ps[i])) h K = K H := fun K => by
      rw [stC_p (n := 1) hb5 rfl (by rw [secC_len]; omega), set_cells _ _ _ (by omega)]
    have e7 : putM st ct (a + i) (ps.drop i) x = putM st ct (a + (i + 1)) (ps.drop (i + 1)) (x.set (a + i) (sealB st ct ps[i])) := by
      rw [drop_cons hil, putM]; rfl
    simp only [getN_0, s64_l0, cmC_int, g1, cnd_t, e1, e2, biC_add, e3, clC_of (e4 _), faC_p, Nat.add_zero, e5, e6, i64s (show i < 9223372036854775807 by omega), e7]
    exact ih
theorem t3_put {u : Own} {st a ct : Nat} {ps : List (List UInt8)} {x : Sec} (hm : 30 ≤ m) (hst : st < 4294967296) (hct : ct < 65536) (hps : ∀ p ∈ ps, p.length = 52) (hb : a + ps.length ≤ 16) (hx : x.length = 16) (h : Heap) :
    ∃ h', run t3.get m 64 [secV x, .int .u32 st, .int .i64 a, .int .i64 ct, .sl u 1 (ps.map Val.str)] h = some (secV (putM st ct a ps x), h') := by
  let H := (h.add (.cells (secC x))).add (.cells (reps 16 (.str [])))
  obtain ⟨h', e⟩ := loop_put (q := m - 1) (by omega) (m - 1) (u := u) (b5 := h.next) (b10 := h.next + 1) hst hct hps (by omega) hb ps.length 0 (by omega) (m - 1) (by omega) x H hx (by rw [blk_add_ne _ (by simp)]; exact blk_add_same _) ⟨_, rfl, blk_add_same _⟩
  refine ⟨h', ?_⟩
  rw [t3_r64 (by omega)]
  have bx : ∀ K, boxC 16 (secV x) h K = K (.ptr h.next 0) (h.add (.cells (secC x))) := fun K => boxC_e (by rw [secV, cells_agg, secC_len, hx])
  simp only [s64, bx, allocC_e, lenlC_s, List.length_map]
  exact e
theorem reps_str : ∀ n, reps n (.str []) = secC (List.replicate n [])
  | 0 => rfl
  | n + 1 => by simp [reps, reps_str n, secC, List.replicate_succ]
theorem loop_blank (call : Call) (n : Nat) {b0 b1 : Nat} (hne : b0 ≠ b1) : ∀ (k i : Nat), i + k = 16 → ∀ (m : Nat), k < m → ∀ (x : Sec) (h : Heap), x.length = 16 → (∀ j, j < i → x[j]? = some (zeros 64)) → h.blk b1 = some (.cells (secC x)) → (∃ z, z.length = 16 ∧ h.blk b0 = some (.cells z)) →
    ∃ h', iter m (fun again0 ys h => s16_l0 call n again0 (.ptr b0 0) (.ptr b1 0) (getN ys 0) h) [.int .i64 i] h = some (secV (List.replicate 16 (zeros 64)), h')
  | 0, i, hi, m, hm, x, h, hx, hj, hb1, ⟨z, hz, hb0⟩ => by
    obtain ⟨m, rfl⟩ : ∃ q, m = q + 1 := ⟨m - 1, by omega⟩
    have : i = 16 := by omega
    subst this
    have hxe : x = List.replicate 16 (zeros 64) := by
      apply List.ext_getElem?
      intro j
      by_cases h : j < 16
      · rw [hj j h, List.getElem?_replicate, if_pos h]
      · rw [List.getElem?_eq_none (by omega), List.getElem?_eq_none (by simp; omega)]
    have g1 : icmp .lt ((16 : Nat) : Int) 16 = false := rfl
    have l1 : ∀ K, ldC true 16 (.ptr b1 0) h K = K (secV x) := fun K => by
      rw [ldC_p hb1 (by rw [secC_len, hx]; decide), List.drop_zero, List.take_of_length_le (by rw [secC_len, hx]; decide)]; rfl
    have s1 : ∀ K, stC 16 (.ptr b0 0) (secV x) h K = K (h.put b0 (.cells (secC x))) := fun K => by
      rw [stC_p (n := 16) hb0 (by rw [secV, cells_agg, secC_len, hx]) (by omega), List.take_zero, List.drop_of_length_le (by omega)]
      simp [secV]
    have l2 : ∀ K, ldC true 16 (.ptr b0 0) (h.put b0 (.cells (secC x))) K = K (secV x) := fun K => by
      rw [ldC_p (blk_put_same _ _) (by rw [secC_len, hx]; decide), List.drop_zero, List.take_of_length_le (by rw [secC_len, hx]; decide)]; rfl
    refine ⟨h.put b0 (.cells (secC x)), ?_⟩
    rw [iter_succ, ← hxe]
    simp only [getN_0, s16_l0, cmC_int, g1, cnd_f, l1, s1, l2]
  | k + 1, i, hi, m, hm, x, h, hx, hj, hb1, ⟨z, hz, hb0⟩ => by
    obtain ⟨m, rfl⟩ : ∃ q, m = q + 1 := ⟨m - 1, by omega⟩
    let H := h.put b1 (.cells (secC (x.set i (zeros 64))))
    obtain ⟨h', ih⟩ := loop_blank call n hne k (i + 1) (by omega) m (by omega) (x.set i (zeros 64)) H (by simpa using hx) (fun j hj2 => by
      rw [List.getElem?_set]
      by_cases e : i = j
      · rw [if_pos e, if_pos (by omega)]
      · rw [if_neg e]; exact hj j (by omega)) (blk_put_same _ _) ⟨z, hz, by rw [blk_put_ne _ hne]; exact hb0⟩
    refine ⟨h', ?_⟩
    rw [iter_succ]
    generalize iter m (fun again0 ys h => s16_l0 call n again0 (.ptr b0 0) (.ptr b1 0) (getN ys 0) h) = G at ih ⊢
    have g1 : icmp .lt (i : Int) 16 = true := decide_eq_true (by omega)
    have z1 : ∀ K, mspC 1 (.int .u8 0) (.int .i64 64) (.int .i64 64) K = K (.sl .ex 1 (reps 64 (.int .u8 0))) := fun K => mspC_e (n := 64) (by decide)
    have z2 : ∀ K, cvsC (.sl .ex 1 (reps 64 (.int .u8 0))) h K = K (.str (zeros 64)) := fun K => cvsC_sl (bytesOf_reps 64)
    have e5 : ∀ K, ixpC 16 1 (.ptr b1 0) (.int .i64 (i : Int)) K = K (.ptr b1 i) := fun K => by rw [ixpC_p (by omega) (by omega), Int.toNat_natCast, Nat.zero_add, Nat.mul_one]
    have e6 : ∀ K, stC 1 (.ptr b1 i) (.str (zeros 64)) h K = K H := fun K => by
      rw [stC_p (n := 1) hb1 rfl (by rw [secC_len]; omega), set_cells _ _ _ (by omega)]
    simp only [getN_0, s16_l0, cmC_int, g1, cnd_t, z1, z2, faC_p, Nat.add_zero, e5, e6, biC_add, i64s (show i < 9223372036854775807 by omega)]
    exact ih
theorem t3_blank (hm : 30 ≤ m) (h : Heap) : ∃ h', run t3.get m 16 [] h = some (secV (List.replicate 16 (zeros 64)), h') := by
  let Z : List Val := secC (List.replicate 16 [])
  let H := ((h.add (.cells Z)).add (.cells Z)).put (h.next + 1) (.cells Z)
  obtain ⟨h', e⟩ := loop_blank (run t3.get (m - 1)) (m - 1) (b0 := h.next) (b1 := h.next + 1) (by omega) 16 0 (by omega) (m - 1) (by omega) (List.replicate 16 []) H (by simp) (fun j hj => by omega) (blk_put_same _ _) ⟨Z, by simp [Z, secC], by rw [blk_put_ne _ (by omega), blk_add_ne _ (by simp)]; exact blk_add_same _⟩
  refine ⟨h', ?_⟩
  rw [t3_r16 (by omega)]
  have ag : ∀ K, aggC Z [] K = K (.agg Z) := fun K => rfl
  have s1 : ∀ K, stC 16 (.ptr (h.next + 1) 0) (.agg Z) ((h.add (.cells Z)).add (.cells Z)) K = K H := fun K => by
    rw [stC_p (n := 16) (o := 0) (l := Z) (by have := blk_add_same (h := h.add (.cells Z)) (.cells Z); exact this) (by simp [Z, secC]) (by simp [Z, secC])]
    rw [List.take_zero, List.drop_of_length_le (by simp [Z, secC])]
    simp [H]
  have er : reps 16 (Val.str []) = Z := reps_str 16
  simp only [s16, er, allocC_e, Heap.next_add, ag]
  refine (s1 _).trans ?_
  exact e
theorem opens_none {st ct : Nat} {s : List UInt8} (h : openM s = none) : opens st ct s = none := by unfold opens; rw [h]
theorem loop_run {q : Nat} (hq : 3 ≤ q) (n : Nat) {st ct b4 : Nat} {x : Sec} (hx : x.length = 16) : ∀ (k i : Nat), i + k = 16 → ∀ (m : Nat), k < m → ∀ (y : List UInt8) (h : Heap), y.length ≤ 52 * i → Fit h → h.blk b4 = some (.cells (secC x)) →
    ∃ h', iter m (fun again0 ys h => s82_l0 (run t3.get q) n again0 (.int .u32 st) (.int .i64 ct) (.ptr b4 0) (getN ys 0) (getN ys 1) h) [.str y, .int .i64 i] h = some (.str (y ++ runM st ct (x.drop i)), h')
  | 0, i, hi, m, hm, y, h, hy, hf, hb4 => by
    obtain ⟨m, rfl⟩ : ∃ q, m = q + 1 := ⟨m - 1, by omega⟩
    have : i = 16 := by omega
    subst this
    have g1 : icmp .lt ((16 : Nat) : Int) 16 = false := rfl
    refine ⟨h, ?_⟩
    rw [iter_succ, List.drop_of_length_le (by omega), runM, List.append_nil]
    simp only [getN_0, getN_s, s82_l0, s82_j0, cmC_int, g1, cnd_f]
  | k + 1, i, hi, m, hm, y, h, hy, hf, hb4 => by
    obtain ⟨m, rfl⟩ : ∃ q, m = q + 1 := ⟨m - 1, by omega⟩
    have hil : i < x.length := by omega
    have n4 := hf.lt hb4
    have g1 : icmp .lt (i : Int) 16 = true := decide_eq_true (by omega)
    have e1 : ∀ K, ixpC 16 1 (.ptr b4 0) (.int .i64 (i : Int)) K = K (.ptr b4 i) := fun K => by rw [ixpC_p (by omega) (by omega), Int.toNat_natCast, Nat.zero_add, Nat.mul_one]
    have e2 : ∀ K, ldC false 1 (.ptr b4 i) h K = K (.str x[i]) := fun K => by
      rw [ldC_p hb4 (by rw [secC_len]; omega)]
      rw [secC, List.drop_eq_getElem_cons (by simpa using hil), List.take_succ_cons, List.take_zero, List.getElem_map]; rfl
    have e3 : ∀ G, run t3.get q 63 [.str x[i]] G = some (openR (openM x[i]), G) := fun G => by rw [t3_r63 (by omega)]; exact p_ropen
    rw [drop_cons hil, runM]
    cases ho : openM x[i] with
    | none =>
      rw [opens_none ho]
      rw [ho] at e3
      refine ⟨(h.add (.cells [.int .u32 0, .int .i64 0, .str [], .bool false])).put h.next (.cells [.int .u32 0, .int .i64 0, .str [], .bool false]), ?_⟩
      rw [iter_succ]
      generalize iter m (fun again0 ys h => s82_l0 (run t3.get q) n again0 (.int .u32 st) (.int .i64 ct) (.ptr b4 0) (getN ys 0) (getN ys 1) h) = G
      simp only [getN_0, getN_s, s82_l0, s82_j0, cmC_int, g1, cnd_t, faC_p, Nat.add_zero, e1, e2, clC_of (e3 _), openR]
      simp (disch := omega) only [↓cmC_int, ↓cmC_str, ↓biC_add, ↓biC_sub, ↓biC_mul, ↓notC_b, ↓negC_i, ↓cviC_i, ↓cssC_s, ↓cnd_t, ↓cnd_f, ↓pickC_t, ↓pickC_f, ↓gdC_tt, ↓gdC_ff, ↓gdC_tf, ↓gdC_ft, ↓gdC_u, ↓elim_some, ↓exC_0, ↓exC_1, ↓exC_2, ↓exC_3, ↓lensC_s, ↓lenlC_s, ↓lenlC_m, ↓mnC_i, ↓mxC_i, ↓getN_0, ↓getN_s, ↓allocC_e, ↓nilC_p, ↓nilC_e, ↓nilC_f, ↓faC_p, ↓ldC_m, ↓ldK_some, ↓stC_m, ↓stK_some, ↓boxC_m, ↓aggC_m, ↓shC_shrN, ↓ixpC_p, ↓addSC_s, ↓iter_succ, ↓if_true, ↓if_false, ↓reduceIte, shC_shrN, ixpC_p, addSC_s, icmp_eq, icmp_ne, icmp_lt, icmp_le, icmp_gt, icmp_ge, decide_true, decide_false, Bool.not_true, Bool.not_false, Bool.true_and, Bool.and_true, Bool.false_and, Bool.and_false, wrap_i64, wrap_u64, wrap_u32, wrap_u8, cs_put, cs_add, Heap.next_put, Heap.next_add, cells_int, cells_str, cells_bool, cells_ptr, cells_sl, cells_ms, cells_nilp, cells_func, cells_agg, mk_t, mk_f, putA, putN, cond_true, cond_false, Nat.beq_refl, Option.map_some, List.length_cons, List.length_nil, List.drop_succ_cons, List.drop_zero, List.drop_nil, List.take_succ_cons, List.take_zero, List.take_nil, List.cons_append, List.nil_append, List.append_nil, Nat.zero_add, Nat.add_zero, Int.toNat_natCast, Int.toNat_zero, Int.toNat_one, ne_eq, not_true_eq_false, not_false_eq_true, and_self, and_true, true_and, eq_self, Nat.reduceAdd, Nat.reduceLeDiff, Nat.reduceMul, Nat.reduceSub, Nat.left_eq_add, Nat.add_eq_left, Nat.reduceEqDiff, Nat.one_ne_zero, List.append_nil]
    | some r =>
      obtain ⟨st', ct', d⟩ := r
      obtain ⟨hd, h1, h2, -⟩ := openM_len ho
      simp only at hd h1 h2
      rw [ho] at e3
      let C : List Val := [.int .u32 st', .int .i64 ct', .str d, .bool true]
      let H := (h.add (.cells [.int .u32 0, .int .i64 0, .str [], .bool false])).put h.next (.cells C)
      have hfH : Fit H := (hf.add _).put _ (by simp)
      have hbH : H.blk b4 = some (.cells (secC x)) := by rw [blk_put_ne _ (by omega), blk_add_ne _ (by omega)]; exact hb4
      by_cases c1 : st' = st
      · by_cases c2 : ct' = ct
        · have ho2 : opens st ct x[i] = some d := by unfold opens; rw [ho]; simp [c1, c2]
          rw [ho2]
          obtain ⟨h', ih⟩ := loop_run hq n (st := st) (ct := ct) hx k (i + 1) (by omega) m (by omega) (y ++ d) H (by simp; omega) hfH hbH
          refine ⟨h', ?_⟩
          rw [iter_succ]
          generalize iter m (fun again0 ys h => s82_l0 (run t3.get q) n again0 (.int .u32 st) (.int .i64 ct) (.ptr b4 0) (getN ys 0) (getN ys 1) h) = G at ih ⊢
          have a1 : ∀ K, addSC (.str y) (.str d) K = K (.str (y ++ d)) := fun K => addSC_s _ _ (by omega)
          have i1 : (i : Int) + 1 = ((i + 1 : Nat) : Int) := rfl
          subst c1 c2
          simp only [getN_0, getN_s, s82_l0, s82_j0, cmC_int, g1, cnd_t, faC_p, Nat.add_zero, e1, e2, clC_of (e3 _), openR]
          simp (disch := omega) only [↓cmC_int, ↓cmC_str, ↓biC_add, ↓biC_sub, ↓biC_mul, ↓notC_b, ↓negC_i, ↓cviC_i, ↓cssC_s, ↓cnd_t, ↓cnd_f, ↓pickC_t, ↓pickC_f, ↓gdC_tt, ↓gdC_ff, ↓gdC_tf, ↓gdC_ft, ↓gdC_u, ↓elim_some, ↓exC_0, ↓exC_1, ↓exC_2, ↓exC_3, ↓lensC_s, ↓lenlC_s, ↓lenlC_m, ↓mnC_i, ↓mxC_i, ↓getN_0, ↓getN_s, ↓allocC_e, ↓nilC_p, ↓nilC_e, ↓nilC_f, ↓faC_p, ↓ldC_m, ↓ldK_some, ↓stC_m, ↓stK_some, ↓boxC_m, ↓aggC_m, ↓shC_shrN, ↓ixpC_p, ↓addSC_s, ↓iter_succ, ↓if_true, ↓if_false, ↓reduceIte, shC_shrN, ixpC_p, addSC_s, icmp_eq, icmp_ne, icmp_lt, icmp_le, icmp_gt, icmp_ge, decide_true, decide_false, Bool.not_true, Bool.not_false, Bool.true_and, Bool.and_true, Bool.false_and, Bool.and_false, wrap_i64, wrap_u64, wrap_u32, wrap_u8, cs_put, cs_add, Heap.next_put, Heap.next_add, cells_int, cells_str, cells_bool, cells_ptr, cells_sl, cells_ms, cells_nilp, cells_func, cells_agg, mk_t, mk_f, putA, putN, cond_true, cond_false, Nat.beq_refl, Option.map_some, List.length_cons, List.length_nil, List.drop_succ_cons, List.drop_zero, List.drop_nil, List.take_succ_cons, List.take_zero, List.take_nil, List.cons_append, List.nil_append, List.append_nil, Nat.zero_add, Nat.add_zero, Int.toNat_natCast, Int.toNat_zero, Int.toNat_one, ne_eq, not_true_eq_false, not_false_eq_true, and_self, and_true, true_and, eq_self, Nat.reduceAdd, Nat.reduceLeDiff, Nat.reduceMul, Nat.reduceSub, Nat.left_eq_add, Nat.add_eq_left, Nat.reduceEqDiff, Nat.one_ne_zero, ↓a1, i1]
          rw [List.append_assoc] at ih
          exact ih
        · have ho2 : opens st ct x[i] = none := by unfold opens; rw [ho]; simp [c2]
          rw [ho2]
          refine ⟨H, ?_⟩
          rw [iter_succ]
          generalize iter m (fun again0 ys h => s82_l0 (run t3.get q) n again0 (.int .u32 st) (.int .i64 ct) (.ptr b4 0) (getN ys 0) (getN ys 1) h) = G
          have g3 : ¬ ((ct' : Int) = (ct : Int)) := by omega
          subst c1
          simp only [getN_0, getN_s, s82_l0, s82_j0, cmC_int, g1, cnd_t, faC_p, Nat.add_zero, e1, e2, clC_of (e3 _), openR]
          simp (disch := omega) only [↓cmC_int, ↓cmC_str, ↓biC_add, ↓biC_sub, ↓biC_mul, ↓notC_b, ↓negC_i, ↓cviC_i, ↓cssC_s, ↓cnd_t, ↓cnd_f, ↓pickC_t, ↓pickC_f, ↓gdC_tt, ↓gdC_ff, ↓gdC_tf, ↓gdC_ft, ↓gdC_u, ↓elim_some, ↓exC_0, ↓exC_1, ↓exC_2, ↓exC_3, ↓lensC_s, ↓lenlC_s, ↓lenlC_m, ↓mnC_i, ↓mxC_i, ↓getN_0, ↓getN_s, ↓allocC_e, ↓nilC_p, ↓nilC_e, ↓nilC_f, ↓faC_p, ↓ldC_m, ↓ldK_some, ↓stC_m, ↓stK_some, ↓boxC_m, ↓aggC_m, ↓shC_shrN, ↓ixpC_p, ↓addSC_s, ↓iter_succ, ↓if_true, ↓if_false, ↓reduceIte, shC_shrN, ixpC_p, addSC_s, icmp_eq, icmp_ne, icmp_lt, icmp_le, icmp_gt, icmp_ge, decide_true, decide_false, Bool.not_true, Bool.not_false, Bool.true_and, Bool.and_true, Bool.false_and, Bool.and_false, wrap_i64, wrap_u64, wrap_u32, wrap_u8, cs_put, cs_add, Heap.next_put, Heap.next_add, cells_int, cells_str, cells_bool, cells_ptr, cells_sl, cells_ms, cells_nilp, cells_func, cells_agg, mk_t, mk_f, putA, putN, cond_true, cond_false, Nat.beq_refl, Option.map_some, List.length_cons, List.length_nil, List.drop_succ_cons, List.drop_zero, List.drop_nil, List.take_succ_cons, List.take_zero, List.take_nil, List.cons_append, List.nil_append, List.append_nil, Nat.zero_add, Nat.add_zero, Int.toNat_natCast, Int.toNat_zero, Int.toNat_one, ne_eq, not_true_eq_false, not_false_eq_true, and_self, and_true, true_and, eq_self, Nat.reduceAdd, Nat.reduceLeDiff, Nat.reduceMul, Nat.reduceSub, Nat.left_eq_add, Nat.add_eq_left, Nat.reduceEqDiff, Nat.one_ne_zero, g3, List.append_nil]
          rfl
      · have ho2 : opens st ct x[i] = none := by unfold opens; rw [ho]; simp [c1]
        rw [ho2]
        refine ⟨H, ?_⟩
        rw [iter_succ]
        generalize iter m (fun again0 ys h => s82_l0 (run t3.get q) n again0 (.int .u32 st) (.int .i64 ct) (.ptr b4 0) (getN ys 0) (getN ys 1) h) = G
        have g2 : ¬ ((st' : Int) = (st : Int)) := by omega
        simp only [getN_0, getN_s, s82_l0, s82_j0, cmC_int, g1, cnd_t, faC_p, Nat.add_zero, e1, e2, clC_of (e3 _), openR]
        simp (disch := omega) only [↓cmC_int, ↓cmC_str, ↓biC_add, ↓biC_sub, ↓biC_mul, ↓notC_b, ↓negC_i, ↓cviC_i, ↓cssC_s, ↓cnd_t, ↓cnd_f, ↓pickC_t, ↓pickC_f, ↓gdC_tt, ↓gdC_ff, ↓gdC_tf, ↓gdC_ft, ↓gdC_u, ↓elim_some, ↓exC_0, ↓exC_1, ↓exC_2, ↓exC_3, ↓lensC_s, ↓lenlC_s, ↓lenlC_m, ↓mnC_i, ↓mxC_i, ↓getN_0, ↓getN_s, ↓allocC_e, ↓nilC_p, ↓nilC_e, ↓nilC_f, ↓faC_p, ↓ldC_m, ↓ldK_some, ↓stC_m, ↓stK_some, ↓boxC_m, ↓aggC_m, ↓shC_shrN, ↓ixpC_p, ↓addSC_s, ↓iter_succ, ↓if_true, ↓if_false, ↓reduceIte, shC_shrN, ixpC_p, addSC_s, icmp_eq, icmp_ne, icmp_lt, icmp_le, icmp_gt, icmp_ge, decide_true, decide_false, Bool.not_true, Bool.not_false, Bool.true_and, Bool.and_true, Bool.false_and, Bool.and_false, wrap_i64, wrap_u64, wrap_u32, wrap_u8, cs_put, cs_add, Heap.next_put, Heap.next_add, cells_int, cells_str, cells_bool, cells_ptr, cells_sl, cells_ms, cells_nilp, cells_func, cells_agg, mk_t, mk_f, putA, putN, cond_true, cond_false, Nat.beq_refl, Option.map_some, List.length_cons, List.length_nil, List.drop_succ_cons, List.drop_zero, List.drop_nil, List.take_succ_cons, List.take_zero, List.take_nil, List.cons_append, List.nil_append, List.append_nil, Nat.zero_add, Nat.add_zero, Int.toNat_natCast, Int.toNat_zero, Int.toNat_one, ne_eq, not_true_eq_false, not_false_eq_true, and_self, and_true, true_and, eq_self, Nat.reduceAdd, Nat.reduceLeDiff, Nat.reduceMul, Nat.reduceSub, Nat.left_eq_add, Nat.add_eq_left, Nat.reduceEqDiff, Nat.one_ne_zero, g2, List.append_nil]
        rfl
theorem t3_run {st ct a : Nat} {x : Sec} (hm : 30 ≤ m) (hx : x.length = 16) (ha : a ≤ 16) {h : Heap} (hf : Fit h) :
    ∃ h', run t3.get m 82 [secV x, .int .u32 st, .int .i64 a, .int .i64 ct] h = some (.str (runM st ct (x.drop a)), h') := by
  obtain ⟨h', e⟩ := loop_run (q := m - 1) (by omega) (m - 1) (st := st) (ct := ct) (b4 := h.next) hx (16 - a) a (by omega) (m - 1) (by omega) [] (h.add (.cells (secC x))) (by simp) (hf.add _) (blk_add_same _)
  refine ⟨h', ?_⟩
  rw [t3_r82 (by omega)]
  have bx : ∀ K, boxC 16 (secV x) h K = K (.ptr h.next 0) (h.add (.cells (secC x))) := fun K => boxC_e (by rw [secV, cells_agg, secC_len, hx])
  simp only [s82, bx]
  exact e
 end
end Go.AM.T
set_option maxRecDepth 100000
set_option linter.unusedVariables false
set_option linter.unusedSimpArgs false
namespace Go.AM.T
open Go Go.AM
def gPut : List Val → Option Val
  | [.agg l, .int .u32 st, .int .i64 a, .int .i64 ct, .sl w z ps] => match strsOf l, strsOf ps with
    | some x, some p => bif u32B st && decide (0 ≤ a) && decide (0 ≤ ct) && decide (ct < 65536) && decide (a.toNat + p.length ≤ 16) && x.length.beq 16 && p.all (fun p => p.length.beq 52) && z.beq 1 && pureV (.sl w z []) then some (secV (putM st.toNat ct.toNat a.toNat p x)) else none
    | _, _ => none
  | _ => none
def gBlank : List Val → Option Val
  | [] => some (secV (List.replicate 16 (zeros 64)))
  | _ => none
def gRun : List Val → Option Val
  | [.agg l, .int .u32 st, .int .i64 a, .int .i64 ct] => match strsOf l with
    | some x => bif u32B st && decide (0 ≤ a) && decide (a ≤ 16) && decide (0 ≤ ct) && x.length.beq 16 then some (.str (runM st.toNat ct.toNat (x.drop a.toNat))) else none
    | _ => none
  | _ => none
theorem pureV_own (w : Own) (z : Nat) (l : List Val) (h : pureV (.sl w z []) = true) (hl : pureVs l = true) : pureV (.sl w z l) = true := by
  cases w with
  | tok t => cases h
  | _ => exact hl
section
variable {h : Heap}
theorem p_put {u : Own} {st a ct : Nat} {ps : List (List UInt8)} {x : Sec} (hst : st < 4294967296) (hct : ct < 65536) (hps : ∀ p ∈ ps, p.length = 52) (hb : a + ps.length ≤ 16) (hx : x.length = 16) :
    sumF gPut [secV x, .int .u32 st, .int .i64 a, .int .i64 ct, .sl u 1 (ps.map Val.str)] h = some (secV (putM st ct a ps x), h) := by
  refine sumF_of (ys := [secV x, .int .u32 st, .int .i64 a, .int .i64 ct, .sl (match u with | .tok _ => .ro | w => w) 1 (ps.map Val.str)]) (by cases u <;> simp [roVs, roV, roVs_strs, secV, secC]) ?_
  show gPut [.agg (x.map Val.str), _, _, _, _] = _
  rw [gPut.eq_1, strsOf_map, strsOf_map]
  have hall : (ps.all fun p => p.length.beq 52) = true := by rw [List.all_eq_true]; intro p hp; rw [hps p hp]; rfl
  have hp : pureV (.sl (match u with | .tok _ => .ro | w => w) 1 []) = true := by cases u <;> rfl
  have hx16 : x.length.beq 16 = true := by rw [hx]; rfl
  simp only [Int.toNat_natCast]
  exact cond_of (and2 (and2 (and2 (and2 (and2 (and2 (and2 (and2 (u32B_nat hst) (decide_eq_true (by omega))) (decide_eq_true (by omega))) (decide_eq_true (by omega))) (decide_eq_true hb)) hx16) hall) rfl) hp)
theorem p_blank : sumF gBlank [] h = some (secV (List.replicate 16 (zeros 64)), h) := sumF_of (ys := []) rfl rfl
theorem p_run {st a ct : Nat} {x : Sec} (hst : st < 4294967296) (ha : a ≤ 16) (hx : x.length = 16) :
    sumF gRun [secV x, .int .u32 st, .int .i64 a, .int .i64 ct] h = some (.str (runM st ct (x.drop a)), h) := by
  refine sumF_of (ys := [secV x, .int .u32 st, .int .i64 a, .int .i64 ct]) (by simp [roVs, roV, roVs_strs, secV, secC]) ?_
  show gRun [.agg (x.map Val.str), _, _, _] = _
  rw [gRun.eq_1, strsOf_map]
  have hx16 : x.length.beq 16 = true := by rw [hx]; rfl
  simp only [Int.toNat_natCast]
  exact cond_of (and2 (and2 (and2 (and2 (u32B_nat hst) (decide_eq_true (by omega))) (decide_eq_true (by omega))) (decide_eq_true (by omega))) hx16)
 end
end Go.AM.T
set_option maxRecDepth 100000
set_option linter.unusedVariables false
set_option linter.unusedSimpArgs false
namespace Go.AM.T
open Go Go.AM
def t4 : TT := .node 65 (.node 18 (.node 16 (.node 15 (.leaf 13 F13) (.leaf 15 F15)) (.node 17 (.leaf 16 (.prim (sumF gBlank))) (.leaf 17 F17))) (.node 63 (.node 22 (.leaf 18 F18) (.leaf 22 F22)) (.node 64 (.leaf 63 (.prim (sumF gROpen))) (.leaf 64 (.prim (sumF gPut)))))) (.node 69 (.node 67 (.node 66 (.leaf 65 (.prim (sumF gRPcs))) (.leaf 66 (.prim (sumF gRHEnc)))) (.node 68 (.leaf 67 (.prim (sumF gWrong))) (.leaf 68 (.prim (sumF gREnc))))) (.node 81 (.node 80 (.leaf 69 (.prim (sumF gRSeal))) (.leaf 80 (.prim (sumF gRHDec)))) (.node 82 (.leaf 81 (.prim (sumF gRDec))) (.leaf 82 (.prim (sumF gRun))))))
theorem t4_13 : t4.get 13 = some F13 := rfl
theorem t4_15 : t4.get 15 = some F15 := rfl
theorem t4_16 : t4.get 16 = some (.prim (sumF gBlank)) := rfl
theorem t4_17 : t4.get 17 = some F17 := rfl
theorem t4_18 : t4.get 18 = some F18 := rfl
theorem t4_22 : t4.get 22 = some F22 := rfl
theorem t4_63 : t4.get 63 = some (.prim (sumF gROpen)) := rfl
theorem t4_64 : t4.get 64 = some (.prim (sumF gPut)) := rfl
theorem t4_65 : t4.get 65 = some (.prim (sumF gRPcs)) := rfl
theorem t4_66 : t4.get 66 = some (.prim (sumF gRHEnc)) := rfl
theorem t4_67 : t4.get 67 = some (.prim (sumF gWrong)) := rfl
theorem t4_68 : t4.get 68 = some (.prim (sumF gREnc)) := rfl
theorem t4_69 : t4.get 69 = some (.prim (sumF gRSeal)) := rfl
theorem t4_80 : t4.get 80 = some (.prim (sumF gRHDec)) := rfl
theorem t4_81 : t4.get 81 = some (.prim (sumF gRDec)) := rfl
theorem t4_82 : t4.get 82 = some (.prim (sumF gRun)) := rfl
theorem t4_r13 {m : Nat} (hm : 0 < m) (a0 : Val) (h : Heap) : run t4.get m 13 [a0] h = s13 (run t4.get (m - 1)) (m - 1) a0 h := by
  obtain ⟨m, rfl⟩ : ∃ q, m = q + 1 := ⟨m - 1, by omega⟩
  rw [run_succ t4_13, e13]; rfl
theorem t4_r15 {m : Nat} (hm : 0 < m) (a0 : Val) (a1 : Val) (h : Heap) : run t4.get m 15 [a0, a1] h = s15 (run t4.get (m - 1)) (m - 1) a0 a1 h := by
  obtain ⟨m, rfl⟩ : ∃ q, m = q + 1 := ⟨m - 1, by omega⟩
  rw [run_succ t4_15, e15]; rfl
theorem t4_r16 {m : Nat} (hm : 0 < m) (xs : List Val) (h : Heap) : run t4.get m 16 xs h = ((sumF gBlank)) xs h := by
  obtain ⟨m, rfl⟩ : ∃ q, m = q + 1 := ⟨m - 1, by omega⟩
  rw [run_succ t4_16]; rfl
theorem t4_r17 {m : Nat} (hm : 0 < m) (a0 : Val) (a1 : Val) (h : Heap) : run t4.get m 17 [a0, a1] h = s17 (run t4.get (m - 1)) (m - 1) a0 a1 h := by
  obtain ⟨m, rfl⟩ : ∃ q, m = q + 1 := ⟨m - 1, by omega⟩
  rw [run_succ t4_17, e17]; rfl
theorem t4_r18 {m : Nat} (hm : 0 < m) (a0 : Val) (a1 : Val) (h : Heap) : run t4.get m 18 [a0, a1] h = s18 (run t4.get (m - 1)) (m - 1) a0 a1 h := by
  obtain ⟨m, rfl⟩ : ∃ q, m = q + 1 := ⟨m - 1, by omega⟩
  rw [run_succ t4_18, e18]; rfl
theorem t4_r22 {m : Nat} (hm : 0 < m) (a0 : Val) (h : Heap) : run t4.get m 22 [a0] h = s22 (run t4.get (m - 1)) (m - 1) a0 h := by
  obtain ⟨m, rfl⟩ : ∃ q, m = q + 1 := ⟨m - 1, by omega⟩
  rw [run_succ t4_22, e22]; rfl
theorem t4_r63 {m : Nat} (hm : 0 < m) (xs : List Val) (h : Heap) : run t4.get m 63 xs h = ((sumF gROpen)) xs h := by
  obtain ⟨m, rfl⟩ : ∃ q, m = q + 1 := ⟨m - 1, by omega⟩
  rw [run_succ t4_63]; rfl
theorem t4_r64 {m : Nat} (hm : 0 < m) (xs : List Val) (h : Heap) : run t4.get m 64 xs h = ((sumF gPut)) xs h := by
  obtain ⟨m, rfl⟩ : ∃ q, m = q + 1 := ⟨m - 1, by omega⟩
  rw [run_succ t4_64]; rfl
theorem t4_r65 {m : Nat} (hm : 0 < m) (xs : List Val) (h : Heap) : run t4.get m 65 xs h = ((sumF gRPcs)) xs h := by
  obtain ⟨m, rfl⟩ : ∃ q, m = q + 1 := ⟨m - 1, by omega⟩
  rw [run_succ t4_65]; rfl
theorem t4_r66 {m : Nat} (hm : 0 < m) (xs : List Val) (h : Heap) : run t4.get m 66 xs h = ((sumF gRHEnc)) xs h := by
  obtain ⟨m, rfl⟩ : ∃ q, m = q + 1 := ⟨m - 1, by omega⟩
  rw [run_succ t4_66]; rfl
theorem t4_r67 {m : Nat} (hm : 0 < m) (xs : List Val) (h : Heap) : run t4.get m 67 xs h = ((sumF gWrong)) xs h := by
  obtain ⟨m, rfl⟩ : ∃ q, m = q + 1 := ⟨m - 1, by omega⟩
  rw [run_succ t4_67]; rfl
theorem t4_r68 {m : Nat} (hm : 0 < m) (xs : List Val) (h : Heap) : run t4.get m 68 xs h = ((sumF gREnc)) xs h := by
  obtain ⟨m, rfl⟩ : ∃ q, m = q + 1 := ⟨m - 1, by omega⟩
  rw [run_succ t4_68]; rfl
theorem t4_r69 {m : Nat} (hm : 0 < m) (xs : List Val) (h : Heap) : run t4.get m 69 xs h = ((sumF gRSeal)) xs h := by
  obtain ⟨m, rfl⟩ : ∃ q, m = q + 1 := ⟨m - 1, by omega⟩
  rw [run_succ t4_69]; rfl
theorem t4_r80 {m : Nat} (hm : 0 < m) (xs : List Val) (h : Heap) : run t4.get m 80 xs h = ((sumF gRHDec)) xs h := by
  obtain ⟨m, rfl⟩ : ∃ q, m = q + 1 := ⟨m - 1, by omega⟩
  rw [run_succ t4_80]; rfl
theorem t4_r81 {m : Nat} (hm : 0 < m) (xs : List Val) (h : Heap) : run t4.get m 81 xs h = ((sumF gRDec)) xs h := by
  obtain ⟨m, rfl⟩ : ∃ q, m = q + 1 := ⟨m - 1, by omega⟩
  rw [run_succ t4_81]; rfl
theorem t4_r82 {m : Nat} (hm : 0 < m) (xs : List Val) (h : Heap) : run t4.get m 82 xs h = ((sumF gRun)) xs h := by
  obtain ⟨m, rfl⟩ : ∃ q, m = q + 1 := ⟨m - 1, by omega⟩
  rw [run_succ t4_82]; rfl
structure Made where
  log : Nat
  gen : Nat
  st : Nat
  base : Nat
  l : List Fr
  e : Nat
  x : Sec
structure Made.Ok (d : Made) : Prop where
  gen : d.gen < 4294967296
  st : d.st < 4294967296
  log : d.log < 65536
  base : d.base < 9223372036854775808
  len : d.l.length < 20
  e1 : 1 ≤ d.e
  e16 : d.e ≤ 16
  x : d.x.length = 16
def madeC (w : Own) (d : Made) : List Val := [.int .i64 d.log, .int .u32 d.gen, .int .u32 d.st, .int .i64 d.base, .sl w 2 (d.l.map frV), .int .i64 d.e] ++ secC d.x
def madeV (w : Own) (d : Made) : Val := .agg (madeC w d)
theorem madeC_len (w : Own) {d : Made} (h : d.x.length = 16) : (madeC w d).length = 22 := by simp [madeC, secC_len, h]
theorem eqvs_strs : ∀ x : Sec, eqvs (secC x) (secC x) = true
  | [] => rfl
  | s :: x => by
    show (eqv (.str s) (.str s) && eqvs (secC x) (secC x)) = true
    rw [eqv_str, eqvs_strs x]; rfl
theorem eqv_sec (x : Sec) : eqv (secV x) (secV x) = true := eqvs_strs x
theorem eqv_h (a b c d : Int) : eqv (hV a b c d) (hV a b c d) = true := by simp [hV, eqv, eqvs]
theorem ld_all {b : Nat} {h : Heap} {l : List Val} {n : Nat} (hb : h.blk b = some (.cells l)) (hl : l.length = n) (K : Val → R) : ldC true n (.ptr b 0) h K = K (.agg l) := by
  rw [ldC_p hb (by omega), List.drop_zero, List.take_of_length_le (by omega)]; rfl
theorem st_all {b : Nat} {h : Heap} {l x : List Val} {n : Nat} (hb : h.blk b = some (.cells l)) (hl : l.length = n) (hx : x.length = n) (K : Heap → R) : stC n (.ptr b 0) (.agg x) h K = K (h.put b (.cells x)) := by
  rw [stC_p (n := n) hb (by rw [cells_agg, hx]) (by omega), List.take_zero, List.drop_of_length_le (by omega)]
  simp
theorem sec16 {y : Sec} (h : y.length = 16) : ∃ a0 a1 a2 a3 a4 a5 a6 a7 a8 a9 b0 b1 b2 b3 b4 b5, y = [a0, a1, a2, a3, a4, a5, a6, a7, a8, a9, b0, b1, b2, b3, b4, b5] := by
  match y, h with
  | [a0, a1, a2, a3, a4, a5, a6, a7, a8, a9, b0, b1, b2, b3, b4, b5], _ => exact ⟨a0, a1, a2, a3, a4, a5, a6, a7, a8, a9, b0, b1, b2, b3, b4, b5, rfl⟩
def z22 : List Val := [.int .i64 0, .int .u32 0, .int .u32 0, .int .i64 0, .sl .nl 2 [], .int .i64 0, .str [], .str [], .str [], .str [], .str [], .str [], .str [], .str [], .str [], .str [], .str [], .str [], .str [], .str [], .str [], .str []]
def createM (log gen st base : Nat) (x : Sec) : Made := ⟨log, gen, st, base, [], 1, putM st 1 0 (pieces (encH log gen st base)) x⟩
theorem pieces_encH (log gen st base : Nat) : (pieces (encH log gen st base)).length = 1 := by rw [pieces, pcs_len, encH_len]; rfl
theorem pieces_len52 (s p : List UInt8) (h : p ∈ pieces s) : p.length = 52 := pcs_mem _ _ _ h
section
variable {m : Nat} {h : Heap}
theorem t4_create {log gen st base : Nat} {x : Sec} (hm : 5 ≤ m) (h1 : log < 65536) (h2 : gen < 4294967296) (h3 : st < 4294967296) (h4 : base < 9223372036854775808) (hx : x.length = 16) (h : Heap) :
    ∃ h', run t4.get m 15 [secV x, hV log gen st base] h = some (madeV .nl (createM log gen st base x), h') := by
  let HC : List Val := [.int .i64 log, .int .u32 gen, .int .u32 st, .int .i64 base]
  obtain ⟨H2, hH2⟩ : ∃ H2, ((h.add (.cells (secC x))).add (.cells HC)).add (.cells z22) = H2 := ⟨_, rfl⟩
  let y := putM st 1 0 (pieces (encH log gen st base)) x
  have hy : y.length = 16 := by rw [putM_len, hx]
  let H3 := H2.put (h.next + 2) (.cells (madeC .nl (createM log gen st base x)))
  refine ⟨H3, ?_⟩
  have k0 : H2.blk h.next = some (.cells (secC x)) := by
    rw [← hH2, blk_add_ne _ (by simp only [Heap.next_add]; omega), blk_add_ne _ (by simp only [Heap.next_add]; omega)]; exact blk_add_same _
  have k1 : H2.blk (h.next + 1) = some (.cells HC) := by
    rw [← hH2, blk_add_ne _ (by simp only [Heap.next_add]; omega)]; exact blk_add_same (h := h.add (.cells (secC x))) _
  have k2 : H2.blk (h.next + 2) = some (.cells z22) := by rw [← hH2]; exact blk_add_same (h := (h.add (.cells (secC x))).add (.cells HC)) _
  have bx : ∀ K, boxC 16 (secV x) h K = K (.ptr h.next 0) (h.add (.cells (secC x))) := fun K => boxC_e (by rw [secV, cells_agg, secC_len, hx])
  have bh : ∀ G K, boxC 4 (hV log gen st base) G K = K (.ptr G.next 0) (G.add (.cells HC)) := fun G K => boxC_e rfl
  have l4 : ∀ K, ldC true 4 (.ptr (h.next + 1) 0) H2 K = K (hV log gen st base) := fun K => ld_all k1 rfl K
  have l16 : ∀ K, ldC true 16 (.ptr h.next 0) H2 K = K (secV x) := fun K => ld_all k0 (by rw [secC_len, hx]) K
  have lst : ∀ K, ldC false 1 (.ptr (h.next + 1) 2) H2 K = K (.int .u32 st) := fun K => by rw [ldC_p k1 (by simp [HC])]; rfl
  have e1 : run t4.get (m - 1) 66 [hV log gen st base] H2 = some (.str (encH log gen st base), H2) := by rw [t4_r66 (by omega)]; exact p_rhenc h1 h2 h3 h4
  have e2 : run t4.get (m - 1) 65 [.str (encH log gen st base)] H2 = some (strsR (pieces (encH log gen st base)), H2) := by rw [t4_r65 (by omega)]; exact p_rpcs (by rw [encH_len]; decide)
  have e3 : run t4.get (m - 1) 64 [secV x, .int .u32 st, .int .i64 0, .int .i64 1, strsR (pieces (encH log gen st base))] H2 = some (secV y, H2) := by
    rw [t4_r64 (by omega)]
    exact p_put (a := 0) (ct := 1) h3 (by decide) (pieces_len52 _) (by rw [pieces_encH]; decide) hx
  have ag : ∀ K, aggC z22 [(0, 4, hV log gen st base), (5, 1, .int .i64 1), (6, 16, secV y)] K = K (madeV .nl (createM log gen st base x)) := fun K => by
    have : ∀ y : Sec, y.length = 16 → aggC z22 [(0, 4, hV log gen st base), (5, 1, .int .i64 1), (6, 16, secV y)] K = K (madeV .nl ⟨log, gen, st, base, [], 1, y⟩) := by
      intro y hy
      obtain ⟨a0, a1, a2, a3, a4, a5, a6, a7, a8, a9, b0, b1, b2, b3, b4, b5, rfl⟩ := sec16 hy
      rfl
    exact this y hy
  have s22 : ∀ K, stC 22 (.ptr (h.next + 2) 0) (madeV .nl (createM log gen st base x)) H2 K = K H3 := fun K => st_all k2 rfl (madeC_len _ hy) K
  have l22 : ∀ K, ldC true 22 (.ptr (h.next + 2) 0) H3 K = K (madeV .nl (createM log gen st base x)) := fun K => ld_all (blk_put_same _ _) (madeC_len _ hy) K
  rw [t4_r15 (by omega)]
  have hz : [Val.int .i64 0, .int .u32 0, .int .u32 0, .int .i64 0, .sl .nl 2 [], .int .i64 0, .str [], .str [], .str [], .str [], .str [], .str [], .str [], .str [], .str [], .str [], .str [], .str [], .str [], .str [], .str [], .str []] = z22 := rfl
  have hn2 : h.next + 1 + 1 = h.next + 2 := rfl
  simp only [s15, hz, bx, bh, Heap.next_add, allocC_e, hH2, hn2, l4, l16, faC_p, Nat.zero_add, lst, clC_of e1, eqv_h, eqv_sec, eqv_int, cond_true, clC_of e2]
  refine (clC_of e3).trans ?_
  simp only [l4, eqv_h, cond_true, ag, s22, l22]
 end
end Go.AM.T
set_option maxRecDepth 100000
set_option linter.unusedVariables false
set_option linter.unusedSimpArgs false
namespace Go.AM.T
open Go Go.AM
theorem app_all {h : Heap} {u : Own} {z : Nat} {g : Bool} {l : List Val} (hf : Fit h) (hl : l.length ≤ 1000000) :
    ∃ w' h', (∀ K, appC g z (.sl .nl z []) (.sl u z l) h K = K (.sl w' z l) h') ∧ Fit h' ∧ Gr h' w' l.length ∧ (∀ b c, h.blk b = some (.cells c) → h'.blk b = some (.cells c)) ∧ h.next ≤ h'.next := by
  have hs : source g z (.sl u z l) h = some l := by simp [source]
  have hc : decide (([] : List Val).length + l.length ≤ room) = true := decide_eq_true (by simp [room]; omega)
  cases l with
  | nil => exact ⟨.nl, h, fun K => by simp only [appC, hs, hc, Nat.beq_refl, Bool.and_self, cond_true], hf, rfl, fun _ _ e => e, Nat.le_refl _⟩
  | cons x l =>
    refine ⟨.tok h.next, h.add (.tok (l.length + 1)), fun K => ?_, hf.add _, blk_add_same _, fun b c hb => ?_, Nat.le_succ _⟩
    · have hc' : decide ((x :: l).length ≤ room) = true := decide_eq_true (by simp [room] at hl ⊢; omega)
      simp only [appC, hs, List.length_nil, Nat.zero_add, hc', Nat.beq_refl, Bool.and_self, cond_true, List.nil_append]
    · have := hf.lt hb
      rw [blk_add_ne _ (by omega)]; exact hb
def place16 (e : Nat) : Nat := if e = 16 then 15 else e
def appM (d : Made) (f : Fr) : Made × Nat × Nat :=
  let w := wrongM (place16 d.e) f.1 f.2
  if w ≠ 0 then (d, 0, w) else
  let ps := pieces (encF d.st (place16 d.e) (UInt8.ofNat f.1.toNat :: f.2))
  if 16 < d.e + ps.length then (d, 0, 5) else (⟨d.log, d.gen, d.st, d.base, d.l ++ [f], d.e + ps.length, putM d.st (d.l.length + 2) d.e ps d.x⟩, d.e, 0)
def appV (w : Own) (r : Made × Nat × Nat) : Val := .agg (madeC w r.1 ++ [.int .i64 r.2.1, .int .i64 r.2.2])
def z24 : List Val := [.int .i64 0, .int .u32 0, .int .u32 0, .int .i64 0, .sl .nl 2 [], .int .i64 0, .str [], .str [], .str [], .str [], .str [], .str [], .str [], .str [], .str [], .str [], .str [], .str [], .str [], .str [], .str [], .str [], .int .i64 0, .int .i64 0]
theorem place_ok {e : Nat} (h1 : 1 ≤ e) (h2 : e ≤ 16) : okPlace (place16 e : Nat) = true := by
  unfold place16 okPlace
  split
  · rfl
  · rw [decide_eq_true (by omega), decide_eq_true (by omega)]; rfl
theorem place_lt {e : Nat} (h2 : e ≤ 16) : place16 e < 16 := by unfold place16; split <;> omega
section
variable {m : Nat}
theorem app_j0 {n : Nat} {w : Own} {d : Made} (hd : d.Ok) {f : Fr} (hm : 5 ≤ m) (hp : f.2.length ≤ 1000) {B0 : Nat} {H : Heap} (hf : Fit H) (k0 : H.blk B0 = some (.cells (madeC w d))) (k1 : H.blk (B0 + 1) = some (.cells [.int .i64 f.1, .str f.2])) (k2 : H.blk (B0 + 2) = some (.cells z24)) :
    ∃ w' h', s17_j0 (run t4.get m) n (.ptr B0 0) (.ptr (B0 + 1) 0) (.ptr (B0 + 2) 0) (.int .i64 (place16 d.e : Nat)) H = some (appV w' (appM d f), h') ∧ ((appM d f).2.2 ≠ 0 → w' = w) ∧ ((appM d f).2.2 = 0 → ∃ t, w' = .tok t) := by
  have hx := hd.x
  have hmc : (madeC w d).length = 22 := madeC_len w hx
  have fr1 : ∀ G K, G.blk (B0 + 1) = some (.cells [.int .i64 f.1, .str f.2]) → ldC true 2 (.ptr (B0 + 1) 0) G K = K (frV f) := fun G K hG => ld_all hG rfl K
  have wr : ∀ G, run t4.get m 67 [.int .i64 (place16 d.e : Nat), frV f] G = some (.int .i64 (wrongM (place16 d.e : Nat) f.1 f.2 : Nat), G) := fun G => by rw [t4_r67 (by omega)]; exact p_wrong
  have ag0 : ∀ (at_ err : Nat) K, aggC z24 [(0, 22, madeV w d), (22, 1, .int .i64 at_), (23, 1, .int .i64 err)] K = K (appV w (d, at_, err)) := fun at_ err K => by
    obtain ⟨dl, dg, ds, db, dll, de, dx⟩ := d
    obtain ⟨a0, a1, a2, a3, a4, a5, a6, a7, a8, a9, b0, b1, b2, b3, b4, b5, rfl⟩ := sec16 hx
    rfl
  have s24 : ∀ (G : Heap) (v : List Val) K, G.blk (B0 + 2) = some (.cells z24) → v.length = 24 → stC 24 (.ptr (B0 + 2) 0) (.agg v) G K = K (G.put (B0 + 2) (.cells v)) := fun G v K hG hv => st_all hG rfl hv K
  have l24 : ∀ (G : Heap) (v : List Val) K, v.length = 24 → ldC true 24 (.ptr (B0 + 2) 0) (G.put (B0 + 2) (.cells v)) K = K (.agg v) := fun G v K hv => ld_all (blk_put_same _ _) hv K
  have l22 : ∀ K, ldC true 22 (.ptr B0 0) H K = K (madeV w d) := fun K => ld_all k0 hmc K
  have hz : [Val.int .i64 0, .int .u32 0, .int .u32 0, .int .i64 0, .sl .nl 2 [], .int .i64 0, .str [], .str [], .str [], .str [], .str [], .str [], .str [], .str [], .str [], .str [], .str [], .str [], .str [], .str [], .str [], .str [], .int .i64 0, .int .i64 0] = z24 := rfl
  have hal : ∀ at_ err : Nat, (madeC w d ++ [Val.int .i64 at_, Val.int .i64 err]).length = 24 := fun _ _ => by simp [hmc]
  by_cases c1 : wrongM (place16 d.e : Nat) f.1 f.2 = 0
  case neg =>
    have hA : appM d f = (d, 0, wrongM (place16 d.e : Nat) f.1 f.2) := by unfold appM; simp only [ne_eq, c1, not_false_eq_true, if_true]
    rw [hA]
    generalize wrongM (place16 d.e : Nat) f.1 f.2 = wv at *
    have g1 : icmp .ne (wv : Int) 0 = true := by rw [icmp_ne]; exact decide_eq_true (by omega)
    refine ⟨w, H.put (B0 + 2) (.cells (madeC w d ++ [Val.int .i64 (0 : Nat), Val.int .i64 wv])), ?_, fun _ => rfl, fun h => absurd h c1⟩
    simp only [s17_j0, fr1 H _ k1, clC_of (wr _), cmC_int, g1, cnd_t, l22, hz]
    refine (ag0 0 wv _).trans ?_
    unfold appV
    rw [s24 H _ _ k2 (hal _ _), l24 _ _ _ (hal _ _)]
  case pos =>
    have hno : ¬ (f.1 < 1 ∨ 255 < f.1 ∨ okPlace (place16 d.e : Nat) = false) := fun c => by
      have : wrongM (place16 d.e : Nat) f.1 f.2 = 1 := if_pos c
      omega
    have hfp : ¬ 773 < f.2.length := fun c => by
      have : wrongM (place16 d.e : Nat) f.1 f.2 = 2 := by unfold wrongM; rw [if_neg hno, if_pos c]
      omega
    obtain ⟨k, p⟩ := f
    simp only at *
    obtain ⟨k, rfl⟩ := Int.eq_ofNat_of_zero_le (show 0 ≤ k by omega)
    have hk : k < 256 := by omega
    have pl := place_lt hd.e16
    obtain ⟨ps, hps⟩ : ∃ ps, pieces (encF d.st (place16 d.e) (UInt8.ofNat k :: p)) = ps := ⟨_, rfl⟩
    have hp52 : ∀ q ∈ ps, q.length = 52 := fun q hq => pieces_len52 _ q (hps ▸ hq)
    have hpl : ps.length < 100 := by rw [← hps, pieces, pcs_len, encF_len]; unfold many; simp; omega
    have en : ∀ G, run t4.get m 68 [.int .u32 d.st, .int .i64 (place16 d.e : Nat), frV (k, p)] G = some (.str (encF d.st (place16 d.e) (UInt8.ofNat k :: p)), G) := fun G => by rw [t4_r68 (by omega)]; exact p_renc (p := p) hd.st (by omega) hk (by omega)
    have pc : ∀ G, run t4.get m 65 [.str (encF d.st (place16 d.e) (UInt8.ofNat k :: p))] G = some (strsR ps, G) := fun G => by rw [t4_r65 (by omega), ← hps]; exact p_rpcs (by rw [encF_len]; simp; omega)
    have lst : ∀ G K, G.blk B0 = some (.cells (madeC w d)) → ldC false 1 (.ptr B0 2) G K = K (.int .u32 d.st) := fun G K hG => by rw [ldC_p hG (by omega)]; rfl
    have le : ∀ G K, G.blk B0 = some (.cells (madeC w d)) → ldC false 1 (.ptr B0 5) G K = K (.int .i64 d.e) := fun G K hG => by rw [ldC_p hG (by omega)]; rfl
    have ll : ∀ G K, G.blk B0 = some (.cells (madeC w d)) → ldC false 1 (.ptr B0 4) G K = K (.sl w 2 (d.l.map frV)) := fun G K hG => by rw [ldC_p hG (by omega)]; rfl
    have lh : ∀ G K, G.blk B0 = some (.cells (madeC w d)) → ldC true 4 (.ptr B0 0) G K = K (hV d.log d.gen d.st d.base) := fun G K hG => by rw [ldC_p hG (by omega)]; rfl
    have lx : ∀ G K, G.blk B0 = some (.cells (madeC w d)) → ldC true 16 (.ptr B0 6) G K = K (secV d.x) := fun G K hG => by
      rw [ldC_p hG (by omega)]
      have : ((madeC w d).drop 6).take 16 = secC d.x := by
        have : (madeC w d).drop 6 = secC d.x := rfl
        rw [this, List.take_of_length_le (by rw [secC_len, hx]; decide)]
      rw [this]; rfl
    have lenp : ∀ K, lenlC (strsR ps) K = K (.int .i64 ps.length) := fun K => by simp [strsR]
    have g1 : icmp .ne ((wrongM (place16 d.e : Nat) (k : Int) p : Nat) : Int) 0 = false := by rw [c1]; rfl
    have a1 : IntKind.i64.wrap ((d.e : Int) + (ps.length : Int)) = ((d.e + ps.length : Nat) : Int) := by have := hd.e16; rw [wrap_i64 (by omega) (by omega)]; rfl
    by_cases c2 : 16 < d.e + ps.length
    · have g2 : icmp .gt ((d.e + ps.length : Nat) : Int) 16 = true := decide_eq_true (by omega)
      have hA : appM d ((k : Int), p) = (d, 0, 5) := by
        unfold appM
        simp only [c1, ne_eq, not_true_eq_false, if_false, Int.toNat_natCast, hps, c2, if_true]
      rw [hA]
      refine ⟨w, H.put (B0 + 2) (.cells (madeC w d ++ [Val.int .i64 (0 : Nat), Val.int .i64 (5 : Nat)])), ?_, fun _ => rfl, fun h => absurd h (by simp)⟩
      simp only [s17_j0, fr1 H _ k1, clC_of (wr _), cmC_int, g1, cnd_f, faC_p, Nat.zero_add, lst H _ k0, clC_of (en _), clC_of (pc _), le H _ k0, lenp, biC_add, a1, g2, cnd_t, l22, hz]
      refine (ag0 0 5 _).trans ?_
      unfold appV
      rw [s24 H _ _ k2 (hal _ _), l24 _ _ _ (hal _ _)]
    · have g2 : icmp .gt ((d.e + ps.length : Nat) : Int) 16 = false := decide_eq_false (by omega)
      obtain ⟨d', hd'⟩ : ∃ d' : Made, (⟨d.log, d.gen, d.st, d.base, d.l ++ [((k : Int), p)], d.e + ps.length, putM d.st (d.l.length + 2) d.e ps d.x⟩ : Made) = d' := ⟨_, rfl⟩
      have hA : appM d ((k : Int), p) = (d', d.e, 0) := by
        unfold appM
        simp only [c1, ne_eq, not_true_eq_false, if_false, Int.toNat_natCast, hps, c2, hd']
      rw [hA]
      have hlen := hd.len
      obtain ⟨w1, H1, ea1, hf1, hg1, kp1, -⟩ := app_all (z := 2) (g := true) (u := w) (l := d.l.map frV) hf (by simp; omega)
      obtain ⟨w2, H2, ea2, hf2, -, kp2, ht⟩ := app_one' (z := 2) (g := true) (u := .ex) (x := frV ((k : Int), p)) hf1 (l := d.l.map frV) (by simpa using hg1) (by simp; omega)
      have q0 : H2.blk B0 = some (.cells (madeC w d)) := kp2 _ _ (kp1 _ _ k0)
      have q1 := kp1 _ _ k1
      have q2 : H2.blk (B0 + 2) = some (.cells z24) := kp2 _ _ (kp1 _ _ k2)
      have hx' : d'.x.length = 16 := by rw [← hd']; simp [putM_len, hx]
      have hc' : (madeC w2 d').length = 22 := madeC_len w2 hx'
      refine ⟨w2, H2.put (B0 + 2) (.cells (madeC w2 d' ++ [Val.int .i64 d.e, Val.int .i64 (0 : Nat)])), ?_, fun h => absurd rfl h, fun _ => ht⟩
      have b1 : ∀ K, bslC 2 [frV ((k : Int), p)] K = K (.sl .ex 2 [frV ((k : Int), p)]) := fun K => rfl
      have ml : d.l.map frV ++ [frV ((k : Int), p)] = d'.l.map frV := by rw [← hd']; simp
      have a2 : IntKind.i64.wrap ((d.l.length : Int) + 2) = ((d.l.length + 2 : Nat) : Int) := by rw [wrap_i64 (by omega) (by omega)]; rfl
      have pt : ∀ G, run t4.get m 64 [secV d.x, .int .u32 d.st, .int .i64 d.e, .int .i64 (d.l.length + 2 : Nat), strsR ps] G = some (secV d'.x, G) := fun G => by
        rw [t4_r64 (by omega), ← hd']
        exact p_put hd.st (by omega) hp52 (by omega) hx
      have z22e : [Val.int .i64 0, .int .u32 0, .int .u32 0, .int .i64 0, .sl .nl 2 [], .int .i64 0, .str [], .str [], .str [], .str [], .str [], .str [], .str [], .str [], .str [], .str [], .str [], .str [], .str [], .str [], .str [], .str []] = z22 := rfl
      have ag1 : ∀ K, aggC z22 [(0, 4, hV d.log d.gen d.st d.base), (4, 1, .sl w2 2 (d'.l.map frV)), (5, 1, .int .i64 (d.e + ps.length : Nat)), (6, 16, secV d'.x)] K = K (madeV w2 d') := fun K => by
        have : ∀ y : Sec, y.length = 16 → aggC z22 [(0, 4, hV d.log d.gen d.st d.base), (4, 1, .sl w2 2 (d'.l.map frV)), (5, 1, .int .i64 (d.e + ps.length : Nat)), (6, 16, secV y)] K = K (madeV w2 ⟨d.log, d.gen, d.st, d.base, d'.l, d.e + ps.length, y⟩) := by
          intro y hy
          obtain ⟨a0, a1, a2, a3, a4, a5, a6, a7, a8, a9, b0, b1, b2, b3, b4, b5, rfl⟩ := sec16 hy
          rfl
        rw [this d'.x hx']
        congr 2
        rw [← hd']
      have ag2 : ∀ (at_ err : Nat) K, aggC z24 [(0, 22, madeV w2 d'), (22, 1, .int .i64 at_), (23, 1, .int .i64 err)] K = K (appV w2 (d', at_, err)) := fun at_ err K => by
        obtain ⟨dl, dg, ds, db, dll, de, dx⟩ := d'
        obtain ⟨a0, a1, a2, a3, a4, a5, a6, a7, a8, a9, b0, b1, b2, b3, b4, b5, rfl⟩ := sec16 hx'
        rfl
      have hal' : (madeC w2 d' ++ [Val.int .i64 d.e, Val.int .i64 (0 : Nat)]).length = 24 := by simp [hc']
      simp only [s17_j0, fr1 H _ k1, clC_of (wr _), cmC_int, g1, cnd_f, faC_p, Nat.zero_add, Nat.add_zero, lst H _ k0, clC_of (en _), clC_of (pc _), le H _ k0, lenp, biC_add, a1, g2, ll H _ k0, ea1, fr1 H1 _ q1, b1, ea2, lh H2 _ q0, le H2 _ q0, lx H2 _ q0, lst H2 _ q0, ll H2 _ q0, lenlC_s, List.length_map, a2, clC_of (pt _), eqv_h, eqv_int, cond_true, hz, z22e, ml, ag1]
      refine (ag2 d.e 0 _).trans ?_
      unfold appV
      rw [s24 H2 _ _ q2 hal', l24 _ _ _ hal']
 end
end Go.AM.T
set_option maxRecDepth 100000
set_option linter.unusedVariables false
set_option linter.unusedSimpArgs false
namespace Go.AM.T
open Go Go.AM
section
variable {m : Nat}
theorem t4_append {w : Own} {d : Made} (hd : d.Ok) {f : Fr} (hm : 6 ≤ m) (hp : f.2.length ≤ 1000) {h : Heap} (hf : Fit h) :
    ∃ w' h', run t4.get m 17 [madeV w d, frV f] h = some (appV w' (appM d f), h') ∧ ((appM d f).2.2 ≠ 0 → w' = w) ∧ ((appM d f).2.2 = 0 → ∃ t, w' = .tok t) := by
  obtain ⟨H, hH⟩ : ∃ H, ((h.add (.cells (madeC w d))).add (.cells [.int .i64 f.1, .str f.2])).add (.cells z24) = H := ⟨_, rfl⟩
  have k0 : H.blk h.next = some (.cells (madeC w d)) := by
    rw [← hH, blk_add_ne _ (by simp only [Heap.next_add]; omega), blk_add_ne _ (by simp only [Heap.next_add]; omega)]; exact blk_add_same _
  have k1 : H.blk (h.next + 1) = some (.cells [.int .i64 f.1, .str f.2]) := by
    rw [← hH, blk_add_ne _ (by simp only [Heap.next_add]; omega)]; exact blk_add_same (h := h.add (.cells (madeC w d))) _
  have k2 : H.blk (h.next + 2) = some (.cells z24) := by rw [← hH]; exact blk_add_same (h := (h.add (.cells (madeC w d))).add (.cells [.int .i64 f.1, .str f.2])) _
  have hfH : Fit H := hH ▸ ((hf.add _).add _).add _
  obtain ⟨w', h', e, h1, h2⟩ := app_j0 (m := m - 1) (n := m - 1) hd (f := f) (by omega) hp hfH k0 k1 k2
  refine ⟨w', h', ?_, h1, h2⟩
  rw [t4_r17 (by omega)]
  have hz : [Val.int .i64 0, .int .u32 0, .int .u32 0, .int .i64 0, .sl .nl 2 [], .int .i64 0, .str [], .str [], .str [], .str [], .str [], .str [], .str [], .str [], .str [], .str [], .str [], .str [], .str [], .str [], .str [], .str [], .int .i64 0, .int .i64 0] = z24 := rfl
  have b0 : ∀ G K, boxC 22 (madeV w d) G K = K (.ptr G.next 0) (G.add (.cells (madeC w d))) := fun G K => boxC_e (by rw [madeV, cells_agg]; exact madeC_len w hd.x)
  have b1 : ∀ G K, boxC 2 (frV f) G K = K (.ptr G.next 0) (G.add (.cells [.int .i64 f.1, .str f.2])) := fun G K => boxC_e rfl
  have le : ∀ K, ldC false 1 (.ptr h.next 5) H K = K (.int .i64 d.e) := fun K => by rw [ldC_p k0 (by rw [madeC_len w hd.x]; decide)]; rfl
  have hn2 : h.next + 1 + 1 = h.next + 2 := rfl
  have he := hd.e16
  by_cases c : d.e = 16
  · have g : icmp .eq (d.e : Int) 16 = true := by rw [icmp_eq]; exact decide_eq_true (by omega)
    have hp : ((place16 d.e : Nat) : Int) = 15 := by rw [place16, if_pos c]; rfl
    rw [hp] at e
    simp only [s17, hz, b0, b1, Heap.next_add, allocC_e, hH, hn2, faC_p, Nat.zero_add, le, cmC_int, g, cnd_t]
    exact e
  · have g : icmp .eq (d.e : Int) 16 = false := by rw [icmp_eq]; exact decide_eq_false (by omega)
    have hp : place16 d.e = d.e := by rw [place16, if_neg c]
    rw [hp] at e
    simp only [s17, hz, b0, b1, Heap.next_add, allocC_e, hH, hn2, faC_p, Nat.zero_add, le, cmC_int, g, cnd_f]
    exact e
def loadGo (st : Nat) (x : Sec) : Nat → Nat → List Fr → List Fr × Nat
  | 0, e, l => (l, e)
  | n + 1, e, l =>
    if e < 16 then
      let r := decM st e (runM st (l.length + 2) (x.drop e))
      if r.2.2.2 ≠ 0 then (l, e) else loadGo st x n (e + many r.2.2.1) (l ++ [((r.1 : Int), r.2.1)])
    else (l, e)
structure Load where
  log : Nat
  gen : Nat
  st : Nat
  base : Nat
  l : List Fr
  e : Nat
def headM (x : Sec) : Option (Nat × Nat × Nat × Nat) :=
  match openM (x.headD []) with
  | some (st, ct, d) =>
    let r := decHM d
    if ct = 1 ∧ r.2.2.2.2 = 0 ∧ r.2.2.1 = st then some (r.1, r.2.1, r.2.2.1, r.2.2.2.1) else none
  | none => none
def loadM (x : Sec) : Option Load :=
  match headM x with
  | some (log, gen, st, base) => let r := loadGo st x 16 1 []; some ⟨log, gen, st, base, r.1, r.2⟩
  | none => none
def z7 : List Val := [.int .i64 0, .int .u32 0, .int .u32 0, .int .i64 0, .sl .nl 2 [], .int .i64 0, .bool false]
def ldedC (w : Own) (d : Load) : List Val := [.int .i64 d.log, .int .u32 d.gen, .int .u32 d.st, .int .i64 d.base, .sl w 2 (d.l.map frV), .int .i64 d.e, .bool true]
def ldedV (w : Own) : Option Load → Val
  | none => .agg z7
  | some d => .agg (ldedC w d)
theorem decM_ok {st e : Nat} {s : List UInt8} (h : (decM st e s).2.2.2 = 0) : 7 ≤ (decM st e s).2.2.1 ∧ (decM st e s).2.2.1 ≤ s.length ∧ (decM st e s).2.2.1 ≤ 780 := by
  have hM : decM st e s = if s.length < 2 then (0, [], 0, 3) else if rd 0 (s.take 2) = 0 then (0, [], 0, 6) else if 774 < rd 0 (s.take 2) then (0, [], 0, 2) else if s.length < 6 + rd 0 (s.take 2) then (0, [], 0, 3) else
      if (((s.take (6 + rd 0 (s.take 2))).drop 6).head?.getD 0 = 0 ∨ rd 0 ((s.take 6).drop 2) ≠ fsum st e ((s.take (6 + rd 0 (s.take 2))).drop 6)) then (0, [], 0, 4) else ((((s.take (6 + rd 0 (s.take 2))).drop 6).head?.getD 0).toNat, ((s.take (6 + rd 0 (s.take 2))).drop 6).drop 1, 6 + rd 0 (s.take 2), 0) := rfl
  generalize rd 0 (s.take 2) = n at hM
  rw [hM] at h ⊢
  by_cases c1 : s.length < 2
  · rw [if_pos c1] at h; cases h
  rw [if_neg c1] at h ⊢
  by_cases c2 : n = 0
  · rw [if_pos c2] at h; cases h
  rw [if_neg c2] at h ⊢
  by_cases c3 : 774 < n
  · rw [if_pos c3] at h; cases h
  rw [if_neg c3] at h ⊢
  by_cases c4 : s.length < 6 + n
  · rw [if_pos c4] at h; cases h
  rw [if_neg c4] at h ⊢
  split at h
  · cases h
  · rename_i c5
    rw [if_neg c5]
    refine ⟨?_, ?_, ?_⟩ <;> simp only <;> omega
theorem decHM_st {s : List UInt8} : (decHM s).2.2.1 < 4294967296 ∧ (decHM s).2.1 < 4294967296 ∧ (decHM s).1 < 65536 ∧ (decHM s).2.2.2.1 ≤ 1099511627776 := by
  have hM : decHM s = if s.length < 32 then (0, 0, 0, 0, 3) else if 1099511627776 < rd 0 ((s.take 20).drop 12) then (0, 0, 0, 0, 4) else if mayH (rd 0 ((s.take 4).drop 2) : Nat) (rd 0 ((s.take 20).drop 12) : Nat) = true ∧ encH (rd 0 ((s.take 4).drop 2)) (rd 0 ((s.take 8).drop 4)) (rd 0 ((s.take 12).drop 8)) (rd 0 ((s.take 20).drop 12)) = s.take 32 then (rd 0 ((s.take 4).drop 2), rd 0 ((s.take 8).drop 4), rd 0 ((s.take 12).drop 8), rd 0 ((s.take 20).drop 12), 0) else (0, 0, 0, 0, 4) := rfl
  rw [hM]
  by_cases c : s.length < 32
  · rw [if_pos c]; decide
  rw [if_neg c]
  by_cases c2 : 1099511627776 < rd 0 ((s.take 20).drop 12)
  · rw [if_pos c2]; decide
  rw [if_neg c2]
  split
  · have l1 : ((s.take 4).drop 2).length = 2 := by simp; omega
    have l2 : ((s.take 8).drop 4).length = 4 := by simp; omega
    have l3 : ((s.take 12).drop 8).length = 4 := by simp; omega
    have r1 := rd_lt' l1
    have r2 := rd_lt' l2
    have r3 := rd_lt' l3
    exact ⟨by simpa using r3, by simpa using r2, by simpa using r1, by simp only; omega⟩
  · decide
 end
end Go.AM.T
set_option maxRecDepth 100000
set_option linter.unusedVariables false
set_option linter.unusedSimpArgs false
namespace Go.AM.T
open Go Go.AM
theorem loadGo_len (st : Nat) (x : Sec) : ∀ (n e : Nat) (l : List Fr), l.length ≤ (loadGo st x n e l).1.length
  | 0, e, l => Nat.le_refl _
  | n + 1, e, l => by
    unfold loadGo
    split
    · simp only
      split
      · exact Nat.le_refl _
      · exact Nat.le_trans (by simp) (loadGo_len st x n _ _)
    · exact Nat.le_refl _
section
variable {m : Nat}
theorem st_one {b o : Nat} {v : Val} {h : Heap} {l : List Val} (hb : h.blk b = some (.cells l)) (hv : cells v = [v]) (ho : o < l.length) (K : Heap → R) : stC 1 (.ptr b o) v h K = K (h.put b (.cells (l.set o v))) := by
  rw [stC_p (n := 1) hb (by rw [hv]; rfl) (by omega), hv, List.set_eq_take_append_cons_drop, if_pos ho, List.append_assoc]
  rfl
theorem loop_load {q : Nat} (hq : 5 ≤ q) (nn : Nat) {x : Sec} (hx : x.length = 16) {st ct log gen base B1 B2 B3 B5 : Nat} {d : List UInt8} (hst : st < 4294967296)
    (n15 : B1 ≠ B5) (n25 : B2 ≠ B5) (n35 : B3 ≠ B5) : ∀ (n e : Nat), 16 ≤ e + n → 1 ≤ e → e ≤ 40 → ∀ (m : Nat), n < m → ∀ (w : Own) (L : List Fr) (h : Heap), Fit h → Gr h w L.length → L.length ≤ e →
    h.blk B1 = some (.cells (secC x)) → h.blk B2 = some (.cells z7) → h.blk B3 = some (.cells [.int .u32 st, .int .i64 ct, .str d, .bool true]) → h.blk B5 = some (.cells (ldedC w ⟨log, gen, st, base, L, e⟩)) →
    ∃ w' h', iter m (fun again0 ys h => s22_l0 (run t4.get q) nn again0 (.ptr B1 0) (.ptr B2 0) (.ptr B3 0) (.ptr B5 0) h) [] h = some (ldedV w' (some ⟨log, gen, st, base, (loadGo st x n e L).1, (loadGo st x n e L).2⟩), h') ∧ ((loadGo st x n e L).1 = L → w' = w) ∧ ((loadGo st x n e L).1 ≠ L → ∃ t, w' = .tok t) := by
  intro n
  induction n with
  | zero =>
    intro e hen he1 he40 m hm w L h hf hg hl k1 k2 k3 k5
    obtain ⟨m, rfl⟩ : ∃ q, m = q + 1 := ⟨m - 1, by omega⟩
    have g1 : icmp .lt (e : Int) 16 = false := decide_eq_false (by omega)
    have l5 : ∀ K, ldC false 1 (.ptr B5 5) h K = K (.int .i64 e) := fun K => by rw [ldC_p k5 (by simp [ldedC])]; rfl
    have l7 : ∀ K, ldC true 7 (.ptr B5 0) h K = K (.agg (ldedC w ⟨log, gen, st, base, L, e⟩)) := fun K => ld_all k5 rfl K
    have s7 : ∀ K, stC 7 (.ptr B2 0) (.agg (ldedC w ⟨log, gen, st, base, L, e⟩)) h K = K (h.put B2 (.cells (ldedC w ⟨log, gen, st, base, L, e⟩))) := fun K => st_all (n := 7) (x := ldedC w ⟨log, gen, st, base, L, e⟩) k2 rfl rfl K
    have l2 : ∀ K, ldC true 7 (.ptr B2 0) (h.put B2 (.cells (ldedC w ⟨log, gen, st, base, L, e⟩))) K = K (.agg (ldedC w ⟨log, gen, st, base, L, e⟩)) := fun K => ld_all (blk_put_same _ _) rfl K
    refine ⟨w, h.put B2 (.cells (ldedC w ⟨log, gen, st, base, L, e⟩)), ?_, fun _ => rfl, fun h => absurd rfl h⟩
    rw [iter_succ]
    simp only [s22_l0, s22_j0, faC_p, Nat.zero_add, l5, cmC_int, g1, cnd_f, l7, s7, l2]
    rfl
  | succ n ih =>
    intro e hen he1 he40 m hm w L h hf hg hl k1 k2 k3 k5
    obtain ⟨m, rfl⟩ : ∃ q, m = q + 1 := ⟨m - 1, by omega⟩
    have l5 : ∀ K, ldC false 1 (.ptr B5 5) h K = K (.int .i64 e) := fun K => by rw [ldC_p k5 (by simp [ldedC])]; rfl
    by_cases c16 : e < 16
    case neg =>
      have g1 : icmp .lt (e : Int) 16 = false := decide_eq_false (by omega)
      have l7 : ∀ K, ldC true 7 (.ptr B5 0) h K = K (.agg (ldedC w ⟨log, gen, st, base, L, e⟩)) := fun K => ld_all k5 rfl K
      have s7 : ∀ K, stC 7 (.ptr B2 0) (.agg (ldedC w ⟨log, gen, st, base, L, e⟩)) h K = K (h.put B2 (.cells (ldedC w ⟨log, gen, st, base, L, e⟩))) := fun K => st_all (n := 7) (x := ldedC w ⟨log, gen, st, base, L, e⟩) k2 rfl rfl K
      have l2 : ∀ K, ldC true 7 (.ptr B2 0) (h.put B2 (.cells (ldedC w ⟨log, gen, st, base, L, e⟩))) K = K (.agg (ldedC w ⟨log, gen, st, base, L, e⟩)) := fun K => ld_all (blk_put_same _ _) rfl K
      refine ⟨w, h.put B2 (.cells (ldedC w ⟨log, gen, st, base, L, e⟩)), ?_, fun _ => rfl, fun h => absurd (by rw [loadGo, if_neg c16]) h⟩
      rw [iter_succ, loadGo, if_neg c16]
      simp only [s22_l0, s22_j0, faC_p, Nat.zero_add, l5, cmC_int, g1, cnd_f, l7, s7, l2]
      rfl
    case pos =>
      have g1 : icmp .lt (e : Int) 16 = true := decide_eq_true (by omega)
      have lst : ∀ K, ldC false 1 (.ptr B3 0) h K = K (.int .u32 st) := fun K => by rw [ldC_p k3 (by simp)]; rfl
      have l16 : ∀ K, ldC true 16 (.ptr B1 0) h K = K (secV x) := fun K => ld_all k1 (by rw [secC_len, hx]) K
      have l4 : ∀ K, ldC false 1 (.ptr B5 4) h K = K (.sl w 2 (L.map frV)) := fun K => by rw [ldC_p k5 (by simp [ldedC])]; rfl
      have a2 : IntKind.i64.wrap ((L.length : Int) + 2) = ((L.length + 2 : Nat) : Int) := by rw [wrap_i64 (by omega) (by omega)]; rfl
      have hok : okPlace (e : Int) = true := and2 (decide_eq_true (by omega)) (decide_eq_true (by omega))
      obtain ⟨rr, hrr⟩ : ∃ rr, runM st (L.length + 2) (x.drop e) = rr := ⟨_, rfl⟩
      have hrl : rr.length ≤ 832 := by
        rw [← hrr]
        have := runM_len st (L.length + 2) (x.drop e)
        have h2 : (x.drop e).length ≤ 16 := by simp; omega
        omega
      have e1 : run t4.get q 82 [secV x, .int .u32 st, .int .i64 e, .int .i64 (L.length + 2 : Nat)] h = some (.str rr, h) := by rw [t4_r82 (by omega), ← hrr]; exact p_run hst (by omega) hx
      obtain ⟨r, hr⟩ : ∃ r, decM st e rr = r := ⟨_, rfl⟩
      have e2 : run t4.get q 81 [.int .u32 st, .int .i64 e, .str rr] h = some (decR r, h) := by rw [t4_r81 (by omega), ← hr]; exact p_rdec hst hok (by omega)
      obtain ⟨k, p, nb, er⟩ := r
      let C6 : List Val := [.int .i64 (k : Nat), .str p, .int .i64 (nb : Nat), .int .i64 (er : Nat)]
      obtain ⟨H1, hH1⟩ : ∃ H1, (h.add (.cells [.int .i64 0, .str [], .int .i64 0, .int .i64 0])).put h.next (.cells C6) = H1 := ⟨_, rfl⟩
      have s6 : ∀ K, stC 4 (.ptr h.next 0) (decR (k, p, nb, er)) (h.add (.cells [.int .i64 0, .str [], .int .i64 0, .int .i64 0])) K = K H1 := fun K => by rw [← hH1]; exact st_all (n := 4) (l := [.int .i64 0, .str [], .int .i64 0, .int .i64 0]) (x := C6) (blk_add_same _) rfl rfl K
      have hf1 : Fit H1 := hH1 ▸ (hf.add _).put _ (by simp)
      have up : ∀ b c, h.blk b = some (.cells c) → H1.blk b = some (.cells c) := fun b c hb => by
        have := hf.lt hb
        rw [← hH1, blk_put_ne _ (by omega), blk_add_ne _ (by omega)]; exact hb
      have k6 : H1.blk h.next = some (.cells C6) := by rw [← hH1]; exact blk_put_same _ _
      have ler : ∀ K, ldC false 1 (.ptr h.next 3) H1 K = K (.int .i64 er) := fun K => by rw [ldC_p k6 (by simp [C6])]; rfl
      by_cases c0 : er = 0
      case neg =>
        have g0 : icmp .ne (er : Int) 0 = true := by rw [icmp_ne]; exact decide_eq_true (by omega)
        have l7 : ∀ K, ldC true 7 (.ptr B5 0) H1 K = K (.agg (ldedC w ⟨log, gen, st, base, L, e⟩)) := fun K => ld_all (up _ _ k5) rfl K
        have s7 : ∀ K, stC 7 (.ptr B2 0) (.agg (ldedC w ⟨log, gen, st, base, L, e⟩)) H1 K = K (H1.put B2 (.cells (ldedC w ⟨log, gen, st, base, L, e⟩))) := fun K => st_all (n := 7) (x := ldedC w ⟨log, gen, st, base, L, e⟩) (up _ _ k2) rfl rfl K
        have l2 : ∀ K, ldC true 7 (.ptr B2 0) (H1.put B2 (.cells (ldedC w ⟨log, gen, st, base, L, e⟩))) K = K (.agg (ldedC w ⟨log, gen, st, base, L, e⟩)) := fun K => ld_all (blk_put_same _ _) rfl K
        have hgo : loadGo st x (n + 1) e L = (L, e) := by
          rw [loadGo, if_pos c16, hrr, hr]
          simp only [ne_eq, c0, not_false_eq_true, if_true]
        refine ⟨w, H1.put B2 (.cells (ldedC w ⟨log, gen, st, base, L, e⟩)), ?_, fun _ => rfl, fun h => absurd (by rw [hgo]) h⟩
        rw [iter_succ, hgo]
        simp only [s22_l0, s22_j0, faC_p, Nat.zero_add, l5, cmC_int, g1, cnd_t, lst, l16, l4, lenlC_s, List.length_map, biC_add, a2, clC_of e1, eqv_int, cond_true, clC_of e2, allocC_e, s6, ler, g0, l7, s7, l2]
        rfl
      case pos =>
        subst c0
        have hdm := decM_ok (st := st) (e := e) (s := rr) (by rw [hr])
        rw [hr] at hdm
        simp only at hdm
        have g0 : icmp .ne ((0 : Nat) : Int) 0 = false := rfl
        have hgo : loadGo st x (n + 1) e L = loadGo st x n (e + many nb) (L ++ [((k : Int), p)]) := by
          rw [loadGo, if_pos c16, hrr, hr]
          simp only [ne_eq, not_true_eq_false, if_false]
        have lf : ∀ K, ldC true 2 (.ptr h.next 0) H1 K = K (frV ((k : Int), p)) := fun K => by rw [ldC_p k6 (by simp [C6])]; rfl
        have l4' : ∀ K, ldC false 1 (.ptr B5 4) H1 K = K (.sl w 2 (L.map frV)) := fun K => by rw [ldC_p (up _ _ k5) (by simp [ldedC])]; rfl
        have b1 : ∀ K, bslC 2 [frV ((k : Int), p)] K = K (.sl .ex 2 [frV ((k : Int), p)]) := fun K => rfl
        have hg1 : Gr H1 w L.length := by
          cases w with
          | tok t =>
            have ht : h.blk t = some (.tok L.length) := hg
            have := hf.lt ht
            show H1.blk t = _
            rw [← hH1, blk_put_ne _ (by omega), blk_add_ne _ (by omega)]; exact ht
          | nl => exact hg
          | ex => trivial
          | ro => exact hg.elim
        obtain ⟨w2, H2, ea2, hf2, hg2, kp2, ht⟩ := app_one' (z := 2) (g := true) (u := .ex) (x := frV ((k : Int), p)) hf1 (l := L.map frV) (by simpa using hg1) (by simp; omega)
        have k5a := kp2 _ _ (up _ _ k5)
        have ml : L.map frV ++ [frV ((k : Int), p)] = (L ++ [((k : Int), p)]).map frV := by simp
        obtain ⟨H3, hH3⟩ : ∃ H3, H2.put B5 (.cells ((ldedC w ⟨log, gen, st, base, L, e⟩).set 4 (.sl w2 2 ((L ++ [((k : Int), p)]).map frV)))) = H3 := ⟨_, rfl⟩
        have s4 : ∀ K, stC 1 (.ptr B5 4) (.sl w2 2 ((L ++ [((k : Int), p)]).map frV)) H2 K = K H3 := fun K => by rw [← hH3]; exact st_one k5a rfl (by simp [ldedC]) K
        have k53 : H3.blk B5 = some (.cells ((ldedC w ⟨log, gen, st, base, L, e⟩).set 4 (.sl w2 2 ((L ++ [((k : Int), p)]).map frV)))) := by rw [← hH3]; exact blk_put_same _ _
        have n65 : h.next ≠ B5 := by have := hf.lt k5; omega
        have k63 : H3.blk h.next = some (.cells C6) := by rw [← hH3, blk_put_ne _ n65]; exact kp2 _ _ k6
        have l5' : ∀ K, ldC false 1 (.ptr B5 5) H3 K = K (.int .i64 e) := fun K => by rw [ldC_p k53 (by simp [ldedC])]; rfl
        have lnb : ∀ K, ldC false 1 (.ptr h.next 2) H3 K = K (.int .i64 nb) := fun K => by rw [ldC_p k63 (by simp [C6])]; rfl
        have w1 : IntKind.i64.wrap ((nb : Int) + 51) = ((nb + 51 : Nat) : Int) := by rw [wrap_i64 (by omega) (by omega)]; rfl
        have w2' : IntKind.i64.wrap (((nb + 51 : Nat) : Int).tdiv 52) = ((many nb : Nat) : Int) := by
          rw [Int.tdiv_eq_ediv_of_nonneg (by omega)]
          have : ((nb + 51 : Nat) : Int) / 52 = (((nb + 51) / 52 : Nat) : Int) := rfl
          rw [this, wrap_i64 (by omega) (by omega)]; rfl
        have hmb : many nb ≤ 15 := by unfold many; omega
        have hm1 : 1 ≤ many nb := by unfold many; omega
        have w3 : IntKind.i64.wrap ((e : Int) + ((many nb : Nat) : Int)) = ((e + many nb : Nat) : Int) := by rw [wrap_i64 (by omega) (by omega)]; rfl
        obtain ⟨H4, hH4⟩ : ∃ H4, H3.put B5 (.cells (((ldedC w ⟨log, gen, st, base, L, e⟩).set 4 (.sl w2 2 ((L ++ [((k : Int), p)]).map frV))).set 5 (.int .i64 (e + many nb : Nat)))) = H4 := ⟨_, rfl⟩
        have s5 : ∀ K, stC 1 (.ptr B5 5) (.int .i64 (e + many nb : Nat)) H3 K = K H4 := fun K => by rw [← hH4]; exact st_one k53 rfl (by simp [ldedC]) K
        have hf3 : Fit H3 := hH3 ▸ hf2.put _ (hf2.lt k5a)
        have hf4 : Fit H4 := hH4 ▸ hf3.put _ (hf3.lt k53)
        have keep : ∀ b c, b ≠ B5 → h.blk b = some (.cells c) → H4.blk b = some (.cells c) := fun b c hb hh => by
          rw [← hH4, blk_put_ne _ hb, ← hH3, blk_put_ne _ hb]; exact kp2 _ _ (up _ _ hh)
        have hg4 : Gr H4 w2 (L ++ [((k : Int), p)]).length := by
          obtain ⟨t, rfl⟩ := ht
          have ht2 : H2.blk t = some (.tok (L.length + 1)) := by simpa [Gr] using hg2
          have nt : t ≠ B5 := by intro e; subst e; rw [k5a] at ht2; cases ht2
          show H4.blk t = _
          rw [← hH4, blk_put_ne _ nt, ← hH3, blk_put_ne _ nt]; simpa using ht2
        obtain ⟨w', h', ihe, hw'⟩ := ih (e + many nb) (by omega) (by omega) (by omega) m (by omega) w2 (L ++ [((k : Int), p)]) H4 hf4 hg4 (by simp; omega) (keep _ _ n15 k1) (keep _ _ n25 k2) (keep _ _ n35 k3) (by rw [← hH4]; exact blk_put_same _ _)
        have htok : ∃ t, w' = .tok t := by
          by_cases c : (loadGo st x n (e + many nb) (L ++ [((k : Int), p)])).1 = L ++ [((k : Int), p)]
          · rw [hw'.1 c]; exact ht
          · exact hw'.2 c
        refine ⟨w', h', ?_, fun h => ?_, fun _ => htok⟩
        · rw [iter_succ, hgo]
          generalize iter m (fun again0 ys h => s22_l0 (run t4.get q) nn again0 (.ptr B1 0) (.ptr B2 0) (.ptr B3 0) (.ptr B5 0) h) = G at ihe ⊢
          simp only [s22_l0, faC_p, Nat.zero_add, l5, cmC_int, g1, cnd_t, lst, l16, l4, lenlC_s, List.length_map, biC_add, a2, clC_of e1, eqv_int, cond_true, clC_of e2, allocC_e, s6, ler, g0, cnd_f, l4', Nat.add_zero, lf, b1, ea2, ml, s4, l5', lnb, w1, biC_quo (show (52 : Int) ≠ 0 by decide), w2', w3, s5]
          exact ihe
        · rw [hgo] at h
          have := loadGo_len st x n (e + many nb) (L ++ [((k : Int), p)])
          rw [h] at this
          simp only [List.length_append, List.length_cons, List.length_nil] at this
          exact absurd this (by omega)
 end
end Go.AM.T
set_option maxRecDepth 100000
set_option linter.unusedVariables false
set_option linter.unusedSimpArgs false
namespace Go.AM.T
open Go Go.AM
section
variable {m : Nat}
theorem t4_load {x : Sec} (hm : 40 ≤ m) (hx : x.length = 16) {h : Heap} (hf : Fit h) :
    ∃ w h', run t4.get m 22 [secV x] h = some (ldedV w (loadM x), h') ∧ (∀ d, loadM x = some d → (d.l = [] → w = .nl) ∧ (d.l ≠ [] → ∃ t, w = .tok t)) := by
  obtain ⟨s0, xs, rfl⟩ : ∃ s0 xs, x = s0 :: xs := by
    cases x with
    | nil => simp at hx
    | cons a b => exact ⟨a, b, rfl⟩
  have bx : ∀ K, boxC 16 (secV (s0 :: xs)) h K = K (.ptr h.next 0) (h.add (.cells (secC (s0 :: xs)))) := fun K => boxC_e (by rw [secV, cells_agg, secC_len, hx])
  obtain ⟨H2, hH2⟩ : ∃ H2, (h.add (.cells (secC (s0 :: xs)))).add (.cells z7) = H2 := ⟨_, rfl⟩
  have hz7 : [Val.int .i64 0, .int .u32 0, .int .u32 0, .int .i64 0, .sl .nl 2 [], .int .i64 0, .bool false] = z7 := rfl
  have k1 : H2.blk h.next = some (.cells (secC (s0 :: xs))) := by rw [← hH2, blk_add_ne _ (by simp only [Heap.next_add]; omega)]; exact blk_add_same _
  have k2 : H2.blk (h.next + 1) = some (.cells z7) := by rw [← hH2]; exact blk_add_same (h := h.add (.cells (secC (s0 :: xs)))) _
  have hf2 : Fit H2 := hH2 ▸ (hf.add _).add _
  have nx2 : H2.next = h.next + 2 := by rw [← hH2]; rfl
  have x0 : ∀ K, ixpC 16 1 (.ptr h.next 0) (.int .i64 0) K = K (.ptr h.next 0) := fun K => ixpC_p (by decide) (by decide)
  have l0 : ∀ K, ldC false 1 (.ptr h.next 0) H2 K = K (.str s0) := fun K => by rw [ldC_p k1 (by rw [secC_len, hx]; decide)]; rfl
  have e1 : run t4.get (m - 1) 63 [.str s0] H2 = some (openR (openM s0), H2) := by rw [t4_r63 (by omega)]; exact p_ropen
  obtain ⟨oc, hoc, hoc4⟩ : ∃ oc : List Val, openR (openM s0) = .agg oc ∧ oc.length = 4 := by
    cases openM s0 with
    | none => exact ⟨_, rfl, rfl⟩
    | some r => obtain ⟨a, b, c⟩ := r; exact ⟨_, rfl, rfl⟩
  obtain ⟨H3, hH3⟩ : ∃ H3, (H2.add (.cells [.int .u32 0, .int .i64 0, .str [], .bool false])).put (h.next + 2) (.cells oc) = H3 := ⟨_, rfl⟩
  have s3 : ∀ K, stC 4 (.ptr (h.next + 2) 0) (.agg oc) (H2.add (.cells [.int .u32 0, .int .i64 0, .str [], .bool false])) K = K H3 := fun K => by
    rw [← hH3]; exact st_all (n := 4) (l := [.int .u32 0, .int .i64 0, .str [], .bool false]) (x := oc) (by rw [← nx2]; exact blk_add_same _) rfl hoc4 K
  have hf3 : Fit H3 := hH3 ▸ (hf2.add _).put _ (by rw [Heap.next_add]; omega)
  have nx3 : H3.next = h.next + 3 := by rw [← hH3]; simp [nx2]
  have up3 : ∀ b c, H2.blk b = some (.cells c) → H3.blk b = some (.cells c) := fun b c hb => by
    have := hf2.lt hb
    rw [← hH3, blk_put_ne _ (by omega), blk_add_ne _ (by omega)]; exact hb
  have k3 : H3.blk (h.next + 2) = some (.cells oc) := by rw [← hH3]; exact blk_put_same _ _
  have fin : ∀ (dd : List UInt8), (∀ K, ldC false 1 (.ptr (h.next + 2) 2) H3 K = K (.str dd)) → True := fun _ _ => trivial
  rw [t4_r22 (by omega)]
  cases ho : openM s0 with
  | none =>
    rw [ho] at hoc e1
    cases hoc
    have lm : loadM (s0 :: xs) = none := by
      have : headM (s0 :: xs) = none := by
        unfold headM
        rw [show (s0 :: xs).headD [] = s0 from rfl, ho]
      unfold loadM
      rw [this]
    rw [lm]
    have ld : ∀ K, ldC false 1 (.ptr (h.next + 2) 2) H3 K = K (.str []) := fun K => by rw [ldC_p k3 (by simp)]; rfl
    have lk : ∀ K, ldC false 1 (.ptr (h.next + 2) 3) H3 K = K (.bool false) := fun K => by rw [ldC_p k3 (by simp)]; rfl
    have e2 : run t4.get (m - 1) 80 [.str []] H3 = some (decHR (decHM []), H3) := by rw [t4_r80 (by omega)]; exact p_rhdec
    obtain ⟨H4, hH4⟩ : ∃ H4, (H3.add (.cells [.int .i64 0, .int .u32 0, .int .u32 0, .int .i64 0, .int .i64 0])).put (h.next + 3) (.cells [.int .i64 0, .int .u32 0, .int .u32 0, .int .i64 0, .int .i64 3]) = H4 := ⟨_, rfl⟩
    have s4 : ∀ K, stC 5 (.ptr (h.next + 3) 0) (decHR (decHM [])) (H3.add (.cells [.int .i64 0, .int .u32 0, .int .u32 0, .int .i64 0, .int .i64 0])) K = K H4 := fun K => by
      rw [← hH4]; exact st_all (n := 5) (l := [.int .i64 0, .int .u32 0, .int .u32 0, .int .i64 0, .int .i64 0]) (x := [.int .i64 0, .int .u32 0, .int .u32 0, .int .i64 0, .int .i64 3]) (by rw [← nx3]; exact blk_add_same _) rfl rfl K
    have up4 : ∀ b c, H3.blk b = some (.cells c) → H4.blk b = some (.cells c) := fun b c hb => by
      have := hf3.lt hb
      rw [← hH4, blk_put_ne _ (by omega), blk_add_ne _ (by omega)]; exact hb
    have lk4 : ∀ K, ldC false 1 (.ptr (h.next + 2) 3) H4 K = K (.bool false) := fun K => by rw [ldC_p (up4 _ _ k3) (by simp)]; rfl
    have az : ∀ K, aggC z7 [] K = K (.agg z7) := fun K => rfl
    have s7 : ∀ K, stC 7 (.ptr (h.next + 1) 0) (.agg z7) H4 K = K (H4.put (h.next + 1) (.cells z7)) := fun K => st_all (n := 7) (x := z7) (up4 _ _ (up3 _ _ k2)) rfl rfl K
    have l7 : ∀ K, ldC true 7 (.ptr (h.next + 1) 0) (H4.put (h.next + 1) (.cells z7)) K = K (.agg z7) := fun K => ld_all (blk_put_same _ _) rfl K
    refine ⟨.nl, H4.put (h.next + 1) (.cells z7), ?_, fun d hd => (by cases hd)⟩
    have oE : openR none = .agg [.int .u32 0, .int .i64 0, .str [], .bool false] := rfl
    simp only [s22, bx, hz7, allocC_e, Heap.next_add, hH2, faC_p, Nat.add_zero, x0, l0, clC_of e1, nx2, oE, s3, Nat.zero_add, ld, clC_of e2, nx3, s4, lk4, notC_b, Bool.not_false, gdC_tf, gdC_u, pickC_t, cnd_t, az, s7, l7]
    rfl
  | some r =>
    obtain ⟨st, ct, d⟩ := r
    obtain ⟨hd52, hst, hct, -⟩ := openM_len ho
    simp only at hd52 hst hct
    rw [ho] at hoc e1
    cases hoc
    have ld : ∀ K, ldC false 1 (.ptr (h.next + 2) 2) H3 K = K (.str d) := fun K => by rw [ldC_p k3 (by simp)]; rfl
    have e2 : run t4.get (m - 1) 80 [.str d] H3 = some (decHR (decHM d), H3) := by rw [t4_r80 (by omega)]; exact p_rhdec
    obtain ⟨b1, b2, b3, b4⟩ := decHM_st (s := d)
    obtain ⟨r, hr⟩ : ∃ r, decHM d = r := ⟨_, rfl⟩
    rw [hr] at e2 b1 b2 b3 b4
    obtain ⟨log, gen, st', base, er⟩ := r
    simp only at b1 b2 b3 b4
    have hH : headM (s0 :: xs) = if ct = 1 ∧ er = 0 ∧ st' = st then some (log, gen, st', base) else none := by
      unfold headM
      rw [show (s0 :: xs).headD [] = s0 from rfl, ho]
      simp only [hr]
    let C4 : List Val := [.int .i64 log, .int .u32 gen, .int .u32 st', .int .i64 base, .int .i64 er]
    obtain ⟨H4, hH4⟩ : ∃ H4, (H3.add (.cells [.int .i64 0, .int .u32 0, .int .u32 0, .int .i64 0, .int .i64 0])).put (h.next + 3) (.cells C4) = H4 := ⟨_, rfl⟩
    have s4 : ∀ K, stC 5 (.ptr (h.next + 3) 0) (decHR (log, gen, st', base, er)) (H3.add (.cells [.int .i64 0, .int .u32 0, .int .u32 0, .int .i64 0, .int .i64 0])) K = K H4 := fun K => by
      rw [← hH4]; exact st_all (n := 5) (l := [.int .i64 0, .int .u32 0, .int .u32 0, .int .i64 0, .int .i64 0]) (x := C4) (by rw [← nx3]; exact blk_add_same _) rfl rfl K
    have hf4 : Fit H4 := hH4 ▸ (hf3.add _).put _ (by rw [Heap.next_add]; omega)
    have nx4 : H4.next = h.next + 4 := by rw [← hH4]; simp [nx3]
    have up4 : ∀ b c, H3.blk b = some (.cells c) → H4.blk b = some (.cells c) := fun b c hb => by
      have := hf3.lt hb
      rw [← hH4, blk_put_ne _ (by omega), blk_add_ne _ (by omega)]; exact hb
    have k4 : H4.blk (h.next + 3) = some (.cells C4) := by rw [← hH4]; exact blk_put_same _ _
    have o0 : ∀ K, ldC false 1 (.ptr (h.next + 2) 0) H4 K = K (.int .u32 st) := fun K => by rw [ldC_p (up4 _ _ k3) (by simp)]; rfl
    have o1 : ∀ K, ldC false 1 (.ptr (h.next + 2) 1) H4 K = K (.int .i64 ct) := fun K => by rw [ldC_p (up4 _ _ k3) (by simp)]; rfl
    have o3 : ∀ K, ldC false 1 (.ptr (h.next + 2) 3) H4 K = K (.bool true) := fun K => by rw [ldC_p (up4 _ _ k3) (by simp)]; rfl
    have q4 : ∀ K, ldC false 1 (.ptr (h.next + 3) 4) H4 K = K (.int .i64 er) := fun K => by rw [ldC_p k4 (by simp [C4])]; rfl
    have q2 : ∀ K, ldC false 1 (.ptr (h.next + 3) 2) H4 K = K (.int .u32 st') := fun K => by rw [ldC_p k4 (by simp [C4])]; rfl
    have az : ∀ K, aggC z7 [] K = K (.agg z7) := fun K => rfl
    have s7 : ∀ K, stC 7 (.ptr (h.next + 1) 0) (.agg z7) H4 K = K (H4.put (h.next + 1) (.cells z7)) := fun K => st_all (n := 7) (x := z7) (up4 _ _ (up3 _ _ k2)) rfl rfl K
    have l7 : ∀ K, ldC true 7 (.ptr (h.next + 1) 0) (H4.put (h.next + 1) (.cells z7)) K = K (.agg z7) := fun K => ld_all (blk_put_same _ _) rfl K
    have oE : openR (some (st, ct, d)) = .agg [.int .u32 st, .int .i64 ct, .str d, .bool true] := rfl
    have bad : ¬ (ct = 1 ∧ er = 0 ∧ st' = st) → loadM (s0 :: xs) = none := fun hn => by
      unfold loadM; rw [hH, if_neg hn]
    by_cases c1 : ct = 1
    case neg =>
      have g1 : icmp .ne (ct : Int) 1 = true := by rw [icmp_ne]; exact decide_eq_true (by omega)
      rw [bad (fun h => c1 h.1)]
      refine ⟨.nl, H4.put (h.next + 1) (.cells z7), ?_, fun d hd => (by cases hd)⟩
      simp only [s22, bx, hz7, allocC_e, Heap.next_add, hH2, faC_p, Nat.add_zero, x0, l0, clC_of e1, nx2, oE, s3, Nat.zero_add, ld, clC_of e2, nx3, s4, o3, notC_b, Bool.not_true, gdC_ff, elim_some, o1, cmC_int, g1, gdC_tf, gdC_u, pickC_f, pickC_t, cnd_t, az, s7, l7]
      rfl
    case pos =>
      have g1 : icmp .ne (ct : Int) 1 = false := by rw [icmp_ne]; exact decide_eq_false (by omega)
      by_cases c2 : er = 0
      case neg =>
        have g2 : icmp .ne (er : Int) 0 = true := by rw [icmp_ne]; exact decide_eq_true (by omega)
        rw [bad (fun h => c2 h.2.1)]
        refine ⟨.nl, H4.put (h.next + 1) (.cells z7), ?_, fun d hd => (by cases hd)⟩
        simp only [s22, bx, hz7, allocC_e, Heap.next_add, hH2, faC_p, Nat.add_zero, x0, l0, clC_of e1, nx2, oE, s3, Nat.zero_add, ld, clC_of e2, nx3, s4, o3, notC_b, Bool.not_true, gdC_ff, elim_some, o1, cmC_int, g1, q4, g2, gdC_tf, gdC_u, pickC_f, pickC_t, cnd_t, az, s7, l7]
        rfl
      case pos =>
        have g2 : icmp .ne (er : Int) 0 = false := by rw [icmp_ne]; exact decide_eq_false (by omega)
        by_cases c3 : st' = st
        case neg =>
          have g3 : icmp .ne (st' : Int) (st : Int) = true := by rw [icmp_ne]; exact decide_eq_true (by omega)
          rw [bad (fun h => c3 h.2.2)]
          refine ⟨.nl, H4.put (h.next + 1) (.cells z7), ?_, fun d hd => (by cases hd)⟩
          simp only [s22, bx, hz7, allocC_e, Heap.next_add, hH2, faC_p, Nat.add_zero, x0, l0, clC_of e1, nx2, oE, s3, Nat.zero_add, ld, clC_of e2, nx3, s4, o3, notC_b, Bool.not_true, gdC_ff, elim_some, o1, cmC_int, g1, q4, g2, q2, o0, g3, gdC_tf, gdC_u, pickC_f, pickC_t, cnd_t, az, s7, l7]
          rfl
        case pos =>
          have g3 : icmp .ne (st' : Int) (st : Int) = false := by rw [icmp_ne]; exact decide_eq_false (by omega)
          have lm : loadM (s0 :: xs) = some ⟨log, gen, st', base, (loadGo st' (s0 :: xs) 16 1 []).1, (loadGo st' (s0 :: xs) 16 1 []).2⟩ := by
            unfold loadM; rw [hH, if_pos ⟨c1, c2, c3⟩]
          subst c3
          have lh : ∀ K, ldC true 4 (.ptr (h.next + 3) 0) H4 K = K (hV log gen st' base) := fun K => by rw [ldC_p k4 (by simp [C4])]; rfl
          have ag : ∀ K, aggC z7 [(0, 4, hV log gen st' base), (5, 1, .int .i64 1), (6, 1, .bool true)] K = K (.agg (ldedC .nl ⟨log, gen, st', base, [], 1⟩)) := fun K => rfl
          obtain ⟨H5, hH5⟩ : ∃ H5, (H4.add (.cells z7)).put (h.next + 4) (.cells (ldedC .nl ⟨log, gen, st', base, [], 1⟩)) = H5 := ⟨_, rfl⟩
          have s5 : ∀ K, stC 7 (.ptr (h.next + 4) 0) (.agg (ldedC .nl ⟨log, gen, st', base, [], 1⟩)) (H4.add (.cells z7)) K = K H5 := fun K => by
            rw [← hH5]; exact st_all (n := 7) (l := z7) (x := ldedC .nl ⟨log, gen, st', base, [], 1⟩) (by rw [← nx4]; exact blk_add_same _) rfl rfl K
          have hf5 : Fit H5 := hH5 ▸ (hf4.add _).put _ (by rw [Heap.next_add]; omega)
          have up5 : ∀ b c, H4.blk b = some (.cells c) → H5.blk b = some (.cells c) := fun b c hb => by
            have := hf4.lt hb
            rw [← hH5, blk_put_ne _ (by omega), blk_add_ne _ (by omega)]; exact hb
          obtain ⟨w', h', e, hw⟩ := loop_load (q := m - 1) (by omega) (m - 1) hx (log := log) (gen := gen) (base := base) (B1 := h.next) (B2 := h.next + 1) (B3 := h.next + 2) (B5 := h.next + 4) (d := d) (ct := ct) hst (by omega) (by omega) (by omega) 16 1 (by omega) (by omega) (by omega) (m - 1) (by omega) .nl [] H5 hf5 rfl (by simp) (up5 _ _ (up4 _ _ (up3 _ _ k1))) (up5 _ _ (up4 _ _ (up3 _ _ k2))) (up5 _ _ (up4 _ _ k3)) (by rw [← hH5]; exact blk_put_same _ _)
          rw [lm]
          refine ⟨w', h', ?_, fun d hd => ?_⟩
          rotate_left
          · cases hd; exact hw
          simp only [s22, bx, hz7, allocC_e, Heap.next_add, hH2, faC_p, Nat.add_zero, x0, l0, clC_of e1, nx2, oE, s3, Nat.zero_add, ld, clC_of e2, nx3, s4, o3, notC_b, Bool.not_true, gdC_ff, elim_some, o1, cmC_int, g1, q4, g2, q2, o0, g3, pickC_f, cnd_f, lh, ag, nx4, s5]
          exact e
 end
end Go.AM.T
set_option maxRecDepth 100000
set_option linter.unusedVariables false
set_option linter.unusedSimpArgs false
namespace Go.AM.T
open Go Go.AM
def gCreate : List Val → Option Val
  | [.agg l, .agg [.int .i64 log, .int .u32 gen, .int .u32 st, .int .i64 base]] => match strsOf l with
    | some x => bif u32B gen && u32B st && decide (0 ≤ log) && decide (log < 65536) && decide (0 ≤ base) && decide (base < 9223372036854775808) && x.length.beq 16 then some (madeV .nl (createM log.toNat gen.toNat st.toNat base.toNat x)) else none
    | none => none
  | _ => none
def madeOf : List Val → Option (Own × Made)
  | .int .i64 log :: .int .u32 gen :: .int .u32 st :: .int .i64 base :: .sl w z l :: .int .i64 e :: rest => match frsOf l, strsOf rest with
    | some L, some x => bif u32B gen && u32B st && decide (0 ≤ log) && decide (log < 65536) && decide (0 ≤ base) && decide (base < 9223372036854775808) && decide (L.length < 20) && decide (1 ≤ e) && decide (e ≤ 16) && x.length.beq 16 && z.beq 2 && pureV (.sl w z []) then some (w, ⟨log.toNat, gen.toNat, st.toNat, base.toNat, L, e.toNat, x⟩) else none
    | _, _ => none
  | _ => none
def gAppend : List Val → Option Val
  | [.agg l, .agg [.int .i64 k, .str p]] => match madeOf l with
    | some (w, d) => bif decide (p.length ≤ 1000) then some (appV (if (appM d (k, p)).2.2 = 0 then .ro else w) (appM d (k, p))) else none
    | none => none
  | _ => none
def lOwn (r : Option Load) : Own := match r with
  | some d => match d.l with
    | [] => .nl
    | _ => .ro
  | none => .nl
def gLoad : List Val → Option Val
  | [.agg l] => match strsOf l with
    | some x => bif x.length.beq 16 then some (ldedV (lOwn (loadM x)) (loadM x)) else none
    | none => none
  | _ => none
theorem cond_inj {α : Type} {b : Bool} {x v : α} (h : (bif b then some x else none) = some v) : b = true ∧ x = v := by
  cases b with
  | false => cases h
  | true => cases h; exact ⟨rfl, rfl⟩
theorem Made.Ok.may {d : Made} (h : d.Ok) (w : Own) (hw : pureV (.sl w 2 []) = true) : madeOf (madeC w d) = some (w, d) := by
  obtain ⟨log, gen, st, base, l, e, x⟩ := d
  have h1 := h.gen; have h2 := h.st; have h3 := h.log; have h4 := h.base; have h5 := h.len; have h6 := h.e1; have h7 := h.e16; have h8 := h.x
  simp only at h1 h2 h3 h4 h5 h6 h7 h8
  show madeOf (.int .i64 log :: .int .u32 gen :: .int .u32 st :: .int .i64 base :: .sl w 2 (l.map frV) :: .int .i64 e :: secC x) = _
  rw [madeOf.eq_1, frsOf_map, secC, strsOf_map]
  have hx16 : x.length.beq 16 = true := by rw [h8]; rfl
  simp only [Int.toNat_natCast]
  exact cond_of (and2 (and2 (and2 (and2 (and2 (and2 (and2 (and2 (and2 (and2 (and2 (u32B_nat h1) (u32B_nat h2)) (decide_eq_true (by omega))) (decide_eq_true (by omega))) (decide_eq_true (by omega))) (decide_eq_true (by omega))) (decide_eq_true h5)) (decide_eq_true (by omega))) (decide_eq_true (by omega))) hx16) rfl) hw)
theorem madeOf_some {l : List Val} {w : Own} {d : Made} (h : madeOf l = some (w, d)) : l = madeC w d ∧ d.Ok ∧ pureV (.sl w 2 []) = true := by
  unfold madeOf at h
  split at h
  · rename_i log gen st base w' z l' e rest
    split at h
    · rename_i L x hL hx
      obtain ⟨hb, he⟩ := cond_inj h
      cases he
      simp only [Bool.and_eq_true, decide_eq_true_eq] at hb
      obtain ⟨⟨⟨⟨⟨⟨⟨⟨⟨⟨⟨h1, h2⟩, h3⟩, h4⟩, h5⟩, h6⟩, h7⟩, h8⟩, h9⟩, h10⟩, h11⟩, h12⟩ := hb
      obtain ⟨gen, rfl, k1⟩ := u32B_iff h1
      obtain ⟨st, rfl, k2⟩ := u32B_iff h2
      obtain ⟨log, rfl⟩ := Int.eq_ofNat_of_zero_le h3
      obtain ⟨base, rfl⟩ := Int.eq_ofNat_of_zero_le h5
      obtain ⟨e, rfl⟩ := Int.eq_ofNat_of_zero_le (show 0 ≤ e by omega)
      have hz := Nat.eq_of_beq_eq_true h11
      have e1 := frsOf_some hL
      have e2 := strsOf_some hx
      subst hz e1 e2
      simp only [Int.toNat_natCast]
      exact ⟨rfl, ⟨k1, k2, by simp only; omega, by simp only; omega, h7, by simp only; omega, by simp only; omega, Nat.eq_of_beq_eq_true h10⟩, h12⟩
    · cases h
  · cases h
section
variable {h : Heap}
theorem p_create {log gen st base : Nat} {x : Sec} (h1 : log < 65536) (h2 : gen < 4294967296) (h3 : st < 4294967296) (h4 : base < 9223372036854775808) (hx : x.length = 16) :
    sumF gCreate [secV x, hV log gen st base] h = some (madeV .nl (createM log gen st base x), h) := by
  refine sumF_of (ys := [secV x, hV log gen st base]) (by simp [roVs, roV, roVs_strs, secV, secC, hV]) ?_
  show gCreate [.agg (x.map Val.str), .agg [.int .i64 (log : Int), .int .u32 (gen : Int), .int .u32 (st : Int), .int .i64 (base : Int)]] = _
  rw [gCreate.eq_1, strsOf_map]
  have hx16 : x.length.beq 16 = true := by rw [hx]; rfl
  simp only [Int.toNat_natCast]
  exact cond_of (and2 (and2 (and2 (and2 (and2 (and2 (u32B_nat h2) (u32B_nat h3)) (decide_eq_true (by omega))) (decide_eq_true (by omega))) (decide_eq_true (by omega))) (decide_eq_true (by omega))) hx16)
theorem roVs_sec (x : Sec) : roVs (secC x) = secC x := roVs_strs x
theorem p_append {w : Own} {d : Made} (hd : d.Ok) (hw : pureV (.sl w 2 []) = true) {f : Fr} (hp : f.2.length ≤ 1000) :
    sumF gAppend [madeV w d, frV f] h = some (appV (if (appM d f).2.2 = 0 then .ro else w) (appM d f), h) := by
  refine sumF_of (ys := [madeV w d, frV f]) ?_ ?_
  · have this : roV (.sl w 2 (d.l.map frV)) = .sl w 2 (d.l.map frV) := by
      cases w with
      | tok t => cases hw
      | _ => simp [roV, roVs_frs]
    have hm : roVs (madeC w d) = madeC w d := by
      unfold madeC
      rw [roVs_append, roVs_sec]
      show [Val.int .i64 d.log, .int .u32 d.gen, .int .u32 d.st, .int .i64 d.base, roV (.sl w 2 (d.l.map frV)), .int .i64 d.e] ++ secC d.x = _
      rw [this]
    show [Val.agg (roVs (madeC w d)), frV f] = _
    rw [hm]; rfl
  · show gAppend [.agg (madeC w d), .agg [.int .i64 f.1, .str f.2]] = _
    rw [gAppend.eq_1, hd.may w hw]
    exact cond_of (decide_eq_true hp)
theorem p_load {x : Sec} (hx : x.length = 16) : sumF gLoad [secV x] h = some (ldedV (lOwn (loadM x)) (loadM x), h) := by
  refine sumF_of (ys := [secV x]) (by simp [roVs, roV, roVs_strs, secV, secC]) ?_
  show gLoad [.agg (x.map Val.str)] = _
  rw [gLoad.eq_1, strsOf_map]
  exact cond_of (by rw [hx]; rfl)
 end
end Go.AM.T
set_option maxRecDepth 100000
set_option linter.unusedVariables false
set_option linter.unusedSimpArgs false
namespace Go.AM.T
open Go Go.AM
def gTrue5 : List Val → Option Val
  | [] => some (.bool true)
  | _ => none
def t5 : TT := .node 71 (.node 23 (.node 15 (.node 12 (.node 5 (.leaf 4 F4) (.node 11 (.leaf 5 F5) (.leaf 11 F11))) (.node 13 (.leaf 12 (.prim (sumF gMay))) (.node 14 (.leaf 13 F13) (.leaf 14 (.prim (sumF gTrue5)))))) (.node 19 (.node 16 (.leaf 15 (.prim (sumF gCreate))) (.node 17 (.leaf 16 (.prim (sumF gBlank))) (.leaf 17 (.prim (sumF gAppend))))) (.node 21 (.node 20 (.leaf 19 F19) (.leaf 20 F20)) (.node 22 (.leaf 21 F21) (.leaf 22 (.prim (sumF gLoad))))))) (.node 30 (.node 26 (.node 24 (.leaf 23 F23) (.node 25 (.leaf 24 F24) (.leaf 25 (.prim (sumF gSame))))) (.node 28 (.node 27 (.leaf 26 F26) (.leaf 27 F27)) (.node 29 (.leaf 28 F28) (.leaf 29 F29)))) (.node 33 (.node 31 (.leaf 30 F30) (.node 32 (.leaf 31 F31) (.leaf 32 F32))) (.node 62 (.node 34 (.leaf 33 F33) (.leaf 34 F34)) (.node 70 (.leaf 62 F62) (.leaf 70 F70)))))) (.node 87 (.node 77 (.node 74 (.node 72 (.leaf 71 F71) (.node 73 (.leaf 72 F72) (.leaf 73 F73))) (.node 75 (.leaf 74 F74) (.node 76 (.leaf 75 F75) (.leaf 76 F76)))) (.node 83 (.node 78 (.leaf 77 F77) (.node 79 (.leaf 78 F78) (.leaf 79 F79))) (.node 85 (.node 84 (.leaf 83 (.prim (sumF gEnc))) (.leaf 84 (.prim (sumF gPcs)))) (.node 86 (.leaf 85 F85) (.leaf 86 F86))))) (.node 124 (.node 120 (.node 88 (.leaf 87 (.prim (sumF gHEnc))) (.node 114 (.leaf 88 (.prim pRepeat)) (.leaf 114 F114))) (.node 122 (.node 121 (.leaf 120 F120) (.leaf 121 F121)) (.node 123 (.leaf 122 F122) (.leaf 123 (.prim (sumF gOpen)))))) (.node 127 (.node 125 (.leaf 124 (.prim (sumF gHDec))) (.node 126 (.leaf 125 F125) (.leaf 126 (.prim (sumF gTold))))) (.node 132 (.node 128 (.leaf 127 (.prim (sumF gDec))) (.leaf 128 (.prim pJoin))) (.node 153 (.leaf 132 (.prim (sumF gSeal))) (.leaf 153 F153))))))
theorem t5_4 : t5.get 4 = some F4 := rfl
theorem t5_5 : t5.get 5 = some F5 := rfl
theorem t5_11 : t5.get 11 = some F11 := rfl
theorem t5_12 : t5.get 12 = some (.prim (sumF gMay)) := rfl
theorem t5_13 : t5.get 13 = some F13 := rfl
theorem t5_14 : t5.get 14 = some (.prim (sumF gTrue5)) := rfl
theorem t5_15 : t5.get 15 = some (.prim (sumF gCreate)) := rfl
theorem t5_16 : t5.get 16 = some (.prim (sumF gBlank)) := rfl
theorem t5_17 : t5.get 17 = some (.prim (sumF gAppend)) := rfl
theorem t5_19 : t5.get 19 = some F19 := rfl
theorem t5_20 : t5.get 20 = some F20 := rfl
theorem t5_21 : t5.get 21 = some F21 := rfl
theorem t5_22 : t5.get 22 = some (.prim (sumF gLoad)) := rfl
theorem t5_23 : t5.get 23 = some F23 := rfl
theorem t5_24 : t5.get 24 = some F24 := rfl
theorem t5_25 : t5.get 25 = some (.prim (sumF gSame)) := rfl
theorem t5_26 : t5.get 26 = some F26 := rfl
theorem t5_27 : t5.get 27 = some F27 := rfl
theorem t5_28 : t5.get 28 = some F28 := rfl
theorem t5_29 : t5.get 29 = some F29 := rfl
theorem t5_30 : t5.get 30 = some F30 := rfl
theorem t5_31 : t5.get 31 = some F31 := rfl
theorem t5_32 : t5.get 32 = some F32 := rfl
theorem t5_33 : t5.get 33 = some F33 := rfl
theorem t5_34 : t5.get 34 = some F34 := rfl
theorem t5_62 : t5.get 62 = some F62 := rfl
theorem t5_70 : t5.get 70 = some F70 := rfl
theorem t5_71 : t5.get 71 = some F71 := rfl
theorem t5_72 : t5.get 72 = some F72 := rfl
theorem t5_73 : t5.get 73 = some F73 := rfl
theorem t5_74 : t5.get 74 = some F74 := rfl
theorem t5_75 : t5.get 75 = some F75 := rfl
theorem t5_76 : t5.get 76 = some F76 := rfl
theorem t5_77 : t5.get 77 = some F77 := rfl
theorem t5_78 : t5.get 78 = some F78 := rfl
theorem t5_79 : t5.get 79 = some F79 := rfl
theorem t5_83 : t5.get 83 = some (.prim (sumF gEnc)) := rfl
theorem t5_84 : t5.get 84 = some (.prim (sumF gPcs)) := rfl
theorem t5_85 : t5.get 85 = some F85 := rfl
theorem t5_86 : t5.get 86 = some F86 := rfl
theorem t5_87 : t5.get 87 = some (.prim (sumF gHEnc)) := rfl
theorem t5_88 : t5.get 88 = some (.prim pRepeat) := rfl
theorem t5_114 : t5.get 114 = some F114 := rfl
theorem t5_120 : t5.get 120 = some F120 := rfl
theorem t5_121 : t5.get 121 = some F121 := rfl
theorem t5_122 : t5.get 122 = some F122 := rfl
theorem t5_123 : t5.get 123 = some (.prim (sumF gOpen)) := rfl
theorem t5_124 : t5.get 124 = some (.prim (sumF gHDec)) := rfl
theorem t5_125 : t5.get 125 = some F125 := rfl
theorem t5_126 : t5.get 126 = some (.prim (sumF gTold)) := rfl
theorem t5_127 : t5.get 127 = some (.prim (sumF gDec)) := rfl
theorem t5_128 : t5.get 128 = some (.prim pJoin) := rfl
theorem t5_132 : t5.get 132 = some (.prim (sumF gSeal)) := rfl
theorem t5_153 : t5.get 153 = some F153 := rfl
theorem t5_r4 {m : Nat} (hm : 0 < m) (a0 : Val) (a1 : Val) (h : Heap) : run t5.get m 4 [a0, a1] h = s4 (run t5.get (m - 1)) (m - 1) a0 a1 h := by
  obtain ⟨m, rfl⟩ : ∃ q, m = q + 1 := ⟨m - 1, by omega⟩
  rw [run_succ t5_4, e4]; rfl
theorem t5_r5 {m : Nat} (hm : 0 < m) (a0 : Val) (a1 : Val) (a2 : Val) (h : Heap) : run t5.get m 5 [a0, a1, a2] h = s5 (run t5.get (m - 1)) (m - 1) a0 a1 a2 h := by
  obtain ⟨m, rfl⟩ : ∃ q, m = q + 1 := ⟨m - 1, by omega⟩
  rw [run_succ t5_5, e5]; rfl
theorem t5_r11 {m : Nat} (hm : 0 < m) (a0 : Val) (h : Heap) : run t5.get m 11 [a0] h = s11 (run t5.get (m - 1)) (m - 1) a0 h := by
  obtain ⟨m, rfl⟩ : ∃ q, m = q + 1 := ⟨m - 1, by omega⟩
  rw [run_succ t5_11, e11]; rfl
theorem t5_r12 {m : Nat} (hm : 0 < m) (xs : List Val) (h : Heap) : run t5.get m 12 xs h = ((sumF gMay)) xs h := by
  obtain ⟨m, rfl⟩ : ∃ q, m = q + 1 := ⟨m - 1, by omega⟩
  rw [run_succ t5_12]; rfl
theorem t5_r13 {m : Nat} (hm : 0 < m) (a0 : Val) (h : Heap) : run t5.get m 13 [a0] h = s13 (run t5.get (m - 1)) (m - 1) a0 h := by
  obtain ⟨m, rfl⟩ : ∃ q, m = q + 1 := ⟨m - 1, by omega⟩
  rw [run_succ t5_13, e13]; rfl
theorem t5_r14 {m : Nat} (hm : 0 < m) (xs : List Val) (h : Heap) : run t5.get m 14 xs h = ((sumF gTrue5)) xs h := by
  obtain ⟨m, rfl⟩ : ∃ q, m = q + 1 := ⟨m - 1, by omega⟩
  rw [run_succ t5_14]; rfl
theorem t5_r15 {m : Nat} (hm : 0 < m) (xs : List Val) (h : Heap) : run t5.get m 15 xs h = ((sumF gCreate)) xs h := by
  obtain ⟨m, rfl⟩ : ∃ q, m = q + 1 := ⟨m - 1, by omega⟩
  rw [run_succ t5_15]; rfl
theorem t5_r16 {m : Nat} (hm : 0 < m) (xs : List Val) (h : Heap) : run t5.get m 16 xs h = ((sumF gBlank)) xs h := by
  obtain ⟨m, rfl⟩ : ∃ q, m = q + 1 := ⟨m - 1, by omega⟩
  rw [run_succ t5_16]; rfl
theorem t5_r17 {m : Nat} (hm : 0 < m) (xs : List Val) (h : Heap) : run t5.get m 17 xs h = ((sumF gAppend)) xs h := by
  obtain ⟨m, rfl⟩ : ∃ q, m = q + 1 := ⟨m - 1, by omega⟩
  rw [run_succ t5_17]; rfl
theorem t5_r19 {m : Nat} (hm : 0 < m) (h : Heap) : run t5.get m 19 [] h = s19 (run t5.get (m - 1)) (m - 1) h := by
  obtain ⟨m, rfl⟩ : ∃ q, m = q + 1 := ⟨m - 1, by omega⟩
  rw [run_succ t5_19, e19]; rfl
theorem t5_r20 {m : Nat} (hm : 0 < m) (a0 : Val) (a1 : Val) (a2 : Val) (h : Heap) : run t5.get m 20 [a0, a1, a2] h = s20 (run t5.get (m - 1)) (m - 1) a0 a1 a2 h := by
  obtain ⟨m, rfl⟩ : ∃ q, m = q + 1 := ⟨m - 1, by omega⟩
  rw [run_succ t5_20, e20]; rfl
theorem t5_r21 {m : Nat} (hm : 0 < m) (a0 : Val) (a1 : Val) (h : Heap) : run t5.get m 21 [a0, a1] h = s21 (run t5.get (m - 1)) (m - 1) a0 a1 h := by
  obtain ⟨m, rfl⟩ : ∃ q, m = q + 1 := ⟨m - 1, by omega⟩
  rw [run_succ t5_21, e21]; rfl
theorem t5_r22 {m : Nat} (hm : 0 < m) (xs : List Val) (h : Heap) : run t5.get m 22 xs h = ((sumF gLoad)) xs h := by
  obtain ⟨m, rfl⟩ : ∃ q, m = q + 1 := ⟨m - 1, by omega⟩
  rw [run_succ t5_22]; rfl
theorem t5_r23 {m : Nat} (hm : 0 < m) (a0 : Val) (a1 : Val) (h : Heap) : run t5.get m 23 [a0, a1] h = s23 (run t5.get (m - 1)) (m - 1) a0 a1 h := by
  obtain ⟨m, rfl⟩ : ∃ q, m = q + 1 := ⟨m - 1, by omega⟩
  rw [run_succ t5_23, e23]; rfl
theorem t5_r24 {m : Nat} (hm : 0 < m) (a0 : Val) (h : Heap) : run t5.get m 24 [a0] h = s24 (run t5.get (m - 1)) (m - 1) a0 h := by
  obtain ⟨m, rfl⟩ : ∃ q, m = q + 1 := ⟨m - 1, by omega⟩
  rw [run_succ t5_24, e24]; rfl
theorem t5_r25 {m : Nat} (hm : 0 < m) (xs : List Val) (h : Heap) : run t5.get m 25 xs h = ((sumF gSame)) xs h := by
  obtain ⟨m, rfl⟩ : ∃ q, m = q + 1 := ⟨m - 1, by omega⟩
  rw [run_succ t5_25]; rfl
theorem t5_r26 {m : Nat} (hm : 0 < m) (a0 : Val) (h : Heap) : run t5.get m 26 [a0] h = s26 (run t5.get (m - 1)) (m - 1) a0 h := by
  obtain ⟨m, rfl⟩ : ∃ q, m = q + 1 := ⟨m - 1, by omega⟩
  rw [run_succ t5_26, e26]; rfl
theorem t5_r27 {m : Nat} (hm : 0 < m) (a0 : Val) (h : Heap) : run t5.get m 27 [a0] h = s27 (run t5.get (m - 1)) (m - 1) a0 h := by
  obtain ⟨m, rfl⟩ : ∃ q, m = q + 1 := ⟨m - 1, by omega⟩
  rw [run_succ t5_27, e27]; rfl
theorem t5_r28 {m : Nat} (hm : 0 < m) (a0 : Val) (h : Heap) : run t5.get m 28 [a0] h = s28 (run t5.get (m - 1)) (m - 1) a0 h := by
  obtain ⟨m, rfl⟩ : ∃ q, m = q + 1 := ⟨m - 1, by omega⟩
  rw [run_succ t5_28, e28]; rfl
theorem t5_r29 {m : Nat} (hm : 0 < m) (a0 : Val) (h : Heap) : run t5.get m 29 [a0] h = s29 (run t5.get (m - 1)) (m - 1) a0 h := by
  obtain ⟨m, rfl⟩ : ∃ q, m = q + 1 := ⟨m - 1, by omega⟩
  rw [run_succ t5_29, e29]; rfl
theorem t5_r30 {m : Nat} (hm : 0 < m) (a0 : Val) (a1 : Val) (a2 : Val) (h : Heap) : run t5.get m 30 [a0, a1, a2] h = s30 (run t5.get (m - 1)) (m - 1) a0 a1 a2 h := by
  obtain ⟨m, rfl⟩ : ∃ q, m = q + 1 := ⟨m - 1, by omega⟩
  rw [run_succ t5_30, e30]; rfl
theorem t5_r31 {m : Nat} (hm : 0 < m) (a0 : Val) (a1 : Val) (h : Heap) : run t5.get m 31 [a0, a1] h = s31 (run t5.get (m - 1)) (m - 1) a0 a1 h := by
  obtain ⟨m, rfl⟩ : ∃ q, m = q + 1 := ⟨m - 1, by omega⟩
  rw [run_succ t5_31, e31]; rfl
theorem t5_r32 {m : Nat} (hm : 0 < m) (a0 : Val) (a1 : Val) (h : Heap) : run t5.get m 32 [a0, a1] h = s32 (run t5.get (m - 1)) (m - 1) a0 a1 h := by
  obtain ⟨m, rfl⟩ : ∃ q, m = q + 1 := ⟨m - 1, by omega⟩
  rw [run_succ t5_32, e32]; rfl
theorem t5_r33 {m : Nat} (hm : 0 < m) (a0 : Val) (h : Heap) : run t5.get m 33 [a0] h = s33 (run t5.get (m - 1)) (m - 1) a0 h := by
  obtain ⟨m, rfl⟩ : ∃ q, m = q + 1 := ⟨m - 1, by omega⟩
  rw [run_succ t5_33, e33]; rfl
theorem t5_r34 {m : Nat} (hm : 0 < m) (a0 : Val) (h : Heap) : run t5.get m 34 [a0] h = s34 (run t5.get (m - 1)) (m - 1) a0 h := by
  obtain ⟨m, rfl⟩ : ∃ q, m = q + 1 := ⟨m - 1, by omega⟩
  rw [run_succ t5_34, e34]; rfl
theorem t5_r62 {m : Nat} (hm : 0 < m) (a0 : Val) (a1 : Val) (h : Heap) : run t5.get m 62 [a0, a1] h = s62 (run t5.get (m - 1)) (m - 1) a0 a1 h := by
  obtain ⟨m, rfl⟩ : ∃ q, m = q + 1 := ⟨m - 1, by omega⟩
  rw [run_succ t5_62, e62]; rfl
theorem t5_r70 {m : Nat} (hm : 0 < m) (a0 : Val) (h : Heap) : run t5.get m 70 [a0] h = s70 (run t5.get (m - 1)) (m - 1) a0 h := by
  obtain ⟨m, rfl⟩ : ∃ q, m = q + 1 := ⟨m - 1, by omega⟩
  rw [run_succ t5_70, e70]; rfl
theorem t5_r71 {m : Nat} (hm : 0 < m) (a0 : Val) (a1 : Val) (a2 : Val) (h : Heap) : run t5.get m 71 [a0, a1, a2] h = s71 (run t5.get (m - 1)) (m - 1) a0 a1 a2 h := by
  obtain ⟨m, rfl⟩ : ∃ q, m = q + 1 := ⟨m - 1, by omega⟩
  rw [run_succ t5_71, e71]; rfl
theorem t5_r72 {m : Nat} (hm : 0 < m) (a0 : Val) (a1 : Val) (h : Heap) : run t5.get m 72 [a0, a1] h = s72 (run t5.get (m - 1)) (m - 1) a0 a1 h := by
  obtain ⟨m, rfl⟩ : ∃ q, m = q + 1 := ⟨m - 1, by omega⟩
  rw [run_succ t5_72, e72]; rfl
theorem t5_r73 {m : Nat} (hm : 0 < m) (a0 : Val) (a1 : Val) (h : Heap) : run t5.get m 73 [a0, a1] h = s73 (run t5.get (m - 1)) (m - 1) a0 a1 h := by
  obtain ⟨m, rfl⟩ : ∃ q, m = q + 1 := ⟨m - 1, by omega⟩
  rw [run_succ t5_73, e73]; rfl
theorem t5_r74 {m : Nat} (hm : 0 < m) (a0 : Val) (a1 : Val) (a2 : Val) (h : Heap) : run t5.get m 74 [a0, a1, a2] h = s74 (run t5.get (m - 1)) (m - 1) a0 a1 a2 h := by
  obtain ⟨m, rfl⟩ : ∃ q, m = q + 1 := ⟨m - 1, by omega⟩
  rw [run_succ t5_74, e74]; rfl
theorem t5_r75 {m : Nat} (hm : 0 < m) (a0 : Val) (a1 : Val) (a2 : Val) (h : Heap) : run t5.get m 75 [a0, a1, a2] h = s75 (run t5.get (m - 1)) (m - 1) a0 a1 a2 h := by
  obtain ⟨m, rfl⟩ : ∃ q, m = q + 1 := ⟨m - 1, by omega⟩
  rw [run_succ t5_75, e75]; rfl
theorem t5_r76 {m : Nat} (hm : 0 < m) (a0 : Val) (a1 : Val) (h : Heap) : run t5.get m 76 [a0, a1] h = s76 (run t5.get (m - 1)) (m - 1) a0 a1 h := by
  obtain ⟨m, rfl⟩ : ∃ q, m = q + 1 := ⟨m - 1, by omega⟩
  rw [run_succ t5_76, e76]; rfl
theorem t5_r77 {m : Nat} (hm : 0 < m) (a0 : Val) (a1 : Val) (h : Heap) : run t5.get m 77 [a0, a1] h = s77 (run t5.get (m - 1)) (m - 1) a0 a1 h := by
  obtain ⟨m, rfl⟩ : ∃ q, m = q + 1 := ⟨m - 1, by omega⟩
  rw [run_succ t5_77, e77]; rfl
theorem t5_r78 {m : Nat} (hm : 0 < m) (a0 : Val) (h : Heap) : run t5.get m 78 [a0] h = s78 (run t5.get (m - 1)) (m - 1) a0 h := by
  obtain ⟨m, rfl⟩ : ∃ q, m = q + 1 := ⟨m - 1, by omega⟩
  rw [run_succ t5_78, e78]; rfl
theorem t5_r79 {m : Nat} (hm : 0 < m) (a0 : Val) (h : Heap) : run t5.get m 79 [a0] h = s79 (run t5.get (m - 1)) (m - 1) a0 h := by
  obtain ⟨m, rfl⟩ : ∃ q, m = q + 1 := ⟨m - 1, by omega⟩
  rw [run_succ t5_79, e79]; rfl
theorem t5_r83 {m : Nat} (hm : 0 < m) (xs : List Val) (h : Heap) : run t5.get m 83 xs h = ((sumF gEnc)) xs h := by
  obtain ⟨m, rfl⟩ : ∃ q, m = q + 1 := ⟨m - 1, by omega⟩
  rw [run_succ t5_83]; rfl
theorem t5_r84 {m : Nat} (hm : 0 < m) (xs : List Val) (h : Heap) : run t5.get m 84 xs h = ((sumF gPcs)) xs h := by
  obtain ⟨m, rfl⟩ : ∃ q, m = q + 1 := ⟨m - 1, by omega⟩
  rw [run_succ t5_84]; rfl
theorem t5_r85 {m : Nat} (hm : 0 < m) (a0 : Val) (a1 : Val) (a2 : Val) (a3 : Val) (h : Heap) : run t5.get m 85 [a0, a1, a2, a3] h = s85 (run t5.get (m - 1)) (m - 1) a0 a1 a2 a3 h := by
  obtain ⟨m, rfl⟩ : ∃ q, m = q + 1 := ⟨m - 1, by omega⟩
  rw [run_succ t5_85, e85]; rfl
theorem t5_r86 {m : Nat} (hm : 0 < m) (a0 : Val) (h : Heap) : run t5.get m 86 [a0] h = s86 (run t5.get (m - 1)) (m - 1) a0 h := by
  obtain ⟨m, rfl⟩ : ∃ q, m = q + 1 := ⟨m - 1, by omega⟩
  rw [run_succ t5_86, e86]; rfl
theorem t5_r87 {m : Nat} (hm : 0 < m) (xs : List Val) (h : Heap) : run t5.get m 87 xs h = ((sumF gHEnc)) xs h := by
  obtain ⟨m, rfl⟩ : ∃ q, m = q + 1 := ⟨m - 1, by omega⟩
  rw [run_succ t5_87]; rfl
theorem t5_r88 {m : Nat} (hm : 0 < m) (xs : List Val) (h : Heap) : run t5.get m 88 xs h = pRepeat xs h := by
  obtain ⟨m, rfl⟩ : ∃ q, m = q + 1 := ⟨m - 1, by omega⟩
  rw [run_succ t5_88]; rfl
theorem t5_r114 {m : Nat} (hm : 0 < m) (a0 : Val) (a1 : Val) (h : Heap) : run t5.get m 114 [a0, a1] h = s114 (run t5.get (m - 1)) (m - 1) a0 a1 h := by
  obtain ⟨m, rfl⟩ : ∃ q, m = q + 1 := ⟨m - 1, by omega⟩
  rw [run_succ t5_114, e114]; rfl
theorem t5_r120 {m : Nat} (hm : 0 < m) (a0 : Val) (h : Heap) : run t5.get m 120 [a0] h = s120 (run t5.get (m - 1)) (m - 1) a0 h := by
  obtain ⟨m, rfl⟩ : ∃ q, m = q + 1 := ⟨m - 1, by omega⟩
  rw [run_succ t5_120, e120]; rfl
theorem t5_r121 {m : Nat} (hm : 0 < m) (a0 : Val) (a1 : Val) (h : Heap) : run t5.get m 121 [a0, a1] h = s121 (run t5.get (m - 1)) (m - 1) a0 a1 h := by
  obtain ⟨m, rfl⟩ : ∃ q, m = q + 1 := ⟨m - 1, by omega⟩
  rw [run_succ t5_121, e121]; rfl
theorem t5_r122 {m : Nat} (hm : 0 < m) (a0 : Val) (h : Heap) : run t5.get m 122 [a0] h = s122 (run t5.get (m - 1)) (m - 1) a0 h := by
  obtain ⟨m, rfl⟩ : ∃ q, m = q + 1 := ⟨m - 1, by omega⟩
  rw [run_succ t5_122, e122]; rfl
theorem t5_r123 {m : Nat} (hm : 0 < m) (xs : List Val) (h : Heap) : run t5.get m 123 xs h = ((sumF gOpen)) xs h := by
  obtain ⟨m, rfl⟩ : ∃ q, m = q + 1 := ⟨m - 1, by omega⟩
  rw [run_succ t5_123]; rfl
theorem t5_r124 {m : Nat} (hm : 0 < m) (xs : List Val) (h : Heap) : run t5.get m 124 xs h = ((sumF gHDec)) xs h := by
  obtain ⟨m, rfl⟩ : ∃ q, m = q + 1 := ⟨m - 1, by omega⟩
  rw [run_succ t5_124]; rfl
theorem t5_r125 {m : Nat} (hm : 0 < m) (a0 : Val) (a1 : Val) (a2 : Val) (h : Heap) : run t5.get m 125 [a0, a1, a2] h = s125 (run t5.get (m - 1)) (m - 1) a0 a1 a2 h := by
  obtain ⟨m, rfl⟩ : ∃ q, m = q + 1 := ⟨m - 1, by omega⟩
  rw [run_succ t5_125, e125]; rfl
theorem t5_r126 {m : Nat} (hm : 0 < m) (xs : List Val) (h : Heap) : run t5.get m 126 xs h = ((sumF gTold)) xs h := by
  obtain ⟨m, rfl⟩ : ∃ q, m = q + 1 := ⟨m - 1, by omega⟩
  rw [run_succ t5_126]; rfl
theorem t5_r127 {m : Nat} (hm : 0 < m) (xs : List Val) (h : Heap) : run t5.get m 127 xs h = ((sumF gDec)) xs h := by
  obtain ⟨m, rfl⟩ : ∃ q, m = q + 1 := ⟨m - 1, by omega⟩
  rw [run_succ t5_127]; rfl
theorem t5_r128 {m : Nat} (hm : 0 < m) (xs : List Val) (h : Heap) : run t5.get m 128 xs h = pJoin xs h := by
  obtain ⟨m, rfl⟩ : ∃ q, m = q + 1 := ⟨m - 1, by omega⟩
  rw [run_succ t5_128]; rfl
theorem t5_r132 {m : Nat} (hm : 0 < m) (xs : List Val) (h : Heap) : run t5.get m 132 xs h = ((sumF gSeal)) xs h := by
  obtain ⟨m, rfl⟩ : ∃ q, m = q + 1 := ⟨m - 1, by omega⟩
  rw [run_succ t5_132]; rfl
theorem t5_r153 {m : Nat} (hm : 0 < m) (a0 : Val) (a1 : Val) (h : Heap) : run t5.get m 153 [a0, a1] h = s153 (run t5.get (m - 1)) (m - 1) a0 a1 h := by
  obtain ⟨m, rfl⟩ : ∃ q, m = q + 1 := ⟨m - 1, by omega⟩
  rw [run_succ t5_153, e153]; rfl
end Go.AM.T
set_option maxRecDepth 100000
set_option linter.unusedVariables false
set_option linter.unusedSimpArgs false
namespace Go.AM.T
open Go Go.AM
def wV (x : Nat × List UInt8) : Val := .agg (.int .i64 x.1 :: ofBytes x.2)
structure Dk where
  lies : List (List UInt8)
  waits : List (Nat × List UInt8)
def lastW (i : Nat) (s : List UInt8) (l : List (Nat × List UInt8)) : List UInt8 := l.foldl (fun s w => if w.1 = i then w.2 else s) s
def Dk.read (d : Dk) (i : Nat) : List UInt8 := lastW i (d.lies[i]?.getD []) d.waits
structure DiskAt (h : Heap) (bd bl : Nat) (w : Own) (d : Dk) : Prop where
  k : h.blk bd = some (.cells [.ms bl 0 d.lies.length d.lies.length 64, .sl w 65 (d.waits.map wV)])
  kl : h.blk bl = some (.cells (d.lies.flatMap ofBytes))
  gr : Gr h w d.waits.length
  l64 : ∀ s ∈ d.lies, s.length = 64
  w64 : ∀ x ∈ d.waits, x.2.length = 64
  wl : d.waits.length < 100000
  ll : d.lies.length ≤ 8192
  l1 : 1 ≤ d.lies.length
  ne : bl ≠ bd
theorem flat_len : ∀ (l : List (List UInt8)), (∀ s ∈ l, s.length = 64) → (l.flatMap ofBytes).length = l.length * 64
  | [], _ => rfl
  | s :: l, h => by
    rw [List.flatMap_cons, List.length_append, flat_len l (fun s hs => h s (List.mem_cons_of_mem _ hs)), ofBytes_len, h s List.mem_cons_self, List.length_cons]; omega
theorem flat_get : ∀ (l : List (List UInt8)) (i : Nat) (hi : i < l.length), (∀ s ∈ l, s.length = 64) → ((l.flatMap ofBytes).drop (i * 64)).take 64 = ofBytes l[i]
  | s :: l, 0, _, h => by
    have hs := h s List.mem_cons_self
    simp only [Nat.zero_mul, List.drop_zero, List.flatMap_cons, List.getElem_cons_zero]
    rw [List.take_append_of_le_length (by rw [ofBytes_len, hs]; decide), List.take_of_length_le (by rw [ofBytes_len, hs]; decide)]
  | s :: l, i + 1, hi, h => by
    have hs := h s List.mem_cons_self
    rw [List.flatMap_cons, List.drop_append, List.drop_of_length_le (by rw [ofBytes_len, hs]; omega), List.nil_append, ofBytes_len, hs, show (i + 1) * 64 - 64 = i * 64 by omega, List.getElem_cons_succ]
    exact flat_get l i (by simpa using hi) (fun s hs => h s (List.mem_cons_of_mem _ hs))
section
variable {m : Nat} {h : Heap} {bd bl : Nat} {w : Own} {d : Dk}
theorem t5_size (hd : DiskAt h bd bl w d) (hm : 2 ≤ m) : run t5.get m 120 [.ptr bd 0] h = some (.int .i64 d.lies.length, h) := by
  rw [t5_r120 (by omega)]
  have c : ∀ K, ceC .p false (.ptr bd 0) .nilp K = K (.bool false) := fun K => rfl
  have l : ∀ K, ldC false 1 (.ptr bd 0) h K = K (.ms bl 0 d.lies.length d.lies.length 64) := fun K => by rw [ldC_p hd.k (by simp)]; rfl
  simp only [s120, c, cnd_f, nilC_p, faC_p, Nat.add_zero, l, lenlC_m]
theorem t5_is (hd : DiskAt h bd bl w d) (hm : 3 ≤ m) (i : Int) : run t5.get m 121 [.ptr bd 0, .int .i64 i] h = some (.bool (decide (0 ≤ i) && decide (i < d.lies.length)), h) := by
  rw [t5_r121 (by omega)]
  have e := t5_size hd (m := m - 1) (by omega)
  by_cases c1 : 0 ≤ i
  · have g1 : icmp .ge i 0 = true := decide_eq_true c1
    simp only [s121, cmC_int, g1, gdC_tt, elim_some, clC_of e, icmp_lt, pickC_t, decide_eq_true c1, Bool.true_and]
  · have g1 : icmp .ge i 0 = false := decide_eq_false c1
    simp only [s121, cmC_int, g1, gdC_ft, gdC_u, pickC_f, decide_eq_false c1, Bool.false_and]
theorem t5_lies (hd : DiskAt h bd bl w d) (hm : 5 ≤ m) {i : Nat} (hi : i < d.lies.length) : run t5.get m 153 [.ptr bd 0, .int .i64 i] h = some (.tup [.str d.lies[i], .int .i64 0], h) := by
  rw [t5_r153 (by omega)]
  have hll := hd.ll
  have c : ∀ K, ceC .p false (.ptr bd 0) .nilp K = K (.bool false) := fun K => rfl
  have e := t5_is hd (m := m - 1) (by omega) (i : Int)
  rw [decide_eq_true (show (0 : Int) ≤ i by omega), decide_eq_true (show (i : Int) < d.lies.length by omega)] at e
  have l : ∀ K, ldC false 1 (.ptr bd 0) h K = K (.ms bl 0 d.lies.length d.lies.length 64) := fun K => by rw [ldC_p hd.k (by simp)]; rfl
  have ix : ∀ K, ixsC 64 (.ms bl 0 d.lies.length d.lies.length 64) (.int .i64 (i : Int)) K = K (.ptr bl (i * 64)) := fun K => by
    have : (Nat.beq 64 64 && decide ((0 : Int) ≤ (i : Int)) && decide ((i : Int) < (d.lies.length : Int))) = true := and2 (and2 rfl (decide_eq_true (by omega))) (decide_eq_true (by omega))
    simp only [ixsC, this, cond_true, Int.toNat_natCast, Nat.zero_add]
  have sl : ∀ K, slaC 64 1 (.ptr bl (i * 64)) none none K = K (.ms bl (i * 64) 64 64 1) := fun K => slaC_p (e := 64) (a := 0) rfl rfl (by decide)
  have cv : ∀ K, cvsC (.ms bl (i * 64) 64 64 1) h K = K (.str d.lies[i]) := fun K => cvsC_ms hd.kl (by rw [flat_len _ hd.l64]; omega) (by rw [flat_get _ _ hi hd.l64, bytesOf_of])
  simp only [s153, c, cnd_f, clC_of e, Bool.and_self, notC_b, Bool.not_true, nilC_p, faC_p, Nat.add_zero, l, ix, sl, cv]
def z65 : List Val := .int .i64 0 :: reps 64 (.int .u8 0)
theorem loop_read_ (hd : DiskAt h bd bl w d) (call : Call) (q : Nat) {i : Nat} : ∀ (k j : Nat), j + k = d.waits.length → ∀ (m : Nat), k < m → ∀ (y : List UInt8) (h1 : Heap),
    ∃ h', iter m (fun again0 zs h => s114_l0 call q again0 (.int .i64 i) (.sl w 65 (d.waits.map wV)) (.int .i64 d.waits.length) (getN zs 0) (getN zs 1) h) [.str y, .int .i64 j] h1 = some (.tup [.str (lastW i y (d.waits.drop j)), .int .i64 0], h') ∧ (∀ b x, h1.blk b = some x → Fit h1 → h'.blk b = some x) ∧ (Fit h1 → Fit h') ∧ h1.next ≤ h'.next
  | 0, j, hj, m, hm, y, h1 => by
    obtain ⟨m, rfl⟩ : ∃ q, m = q + 1 := ⟨m - 1, by omega⟩
    have : j = d.waits.length := by omega
    subst this
    have g1 : icmp .lt (d.waits.length : Int) (d.waits.length : Int) = false := decide_eq_false (by omega)
    refine ⟨h1, ?_, fun _ _ h _ => h, fun h => h, Nat.le_refl _⟩
    rw [iter_succ]
    simp only [getN_0, getN_s, s114_l0, cmC_int, g1, cnd_f, List.drop_length, lastW, List.foldl_nil]
  | k + 1, j, hj, m, hm, y, h1 => by
    obtain ⟨m, rfl⟩ : ∃ q, m = q + 1 := ⟨m - 1, by omega⟩
    have hjl : j < d.waits.length := by omega
    have hwl := hd.wl
    have h64 := hd.w64 d.waits[j] (List.getElem_mem hjl)
    have g1 : icmp .lt (j : Int) (d.waits.length : Int) = true := decide_eq_true (by omega)
    let C : List Val := .int .i64 d.waits[j].1 :: ofBytes d.waits[j].2
    have hC : C.length = 65 := by simp [C, h64]
    obtain ⟨H, hH⟩ : ∃ H, (h1.add (.cells z65)).put h1.next (.cells C) = H := ⟨_, rfl⟩
    have kH : H.blk h1.next = some (.cells C) := by rw [← hH]; exact blk_put_same _ _
    have up : ∀ b x, h1.blk b = some x → Fit h1 → H.blk b = some x := fun b x hb hf => by
      have := hf.lt hb
      rw [← hH, blk_put_ne _ (by omega), blk_add_ne _ (by omega)]; exact hb
    have upf : Fit h1 → Fit H := fun hf => hH ▸ (hf.add _).put _ (by simp)
    have nx : h1.next ≤ H.next := by rw [← hH]; simp
    have e1 : ∀ K, ixsC 65 (.sl w 65 (d.waits.map wV)) (.int .i64 (j : Int)) K = K (.ep C) := fun K => ixsC_sl (v := wV d.waits[j]) (by rw [List.getElem?_map, List.getElem?_eq_getElem hjl]; rfl)
    have e2 : ∀ G K, ldC true 65 (.ep C) G K = K (.agg C) := fun G K => by rw [ldC_e (by omega), List.take_of_length_le (by omega)]; rfl
    have z65e : (z65).length = 65 := rfl
    have e3 : ∀ K, stC 65 (.ptr h1.next 0) (.agg C) (h1.add (.cells z65)) K = K H := fun K => by rw [← hH]; exact st_all (n := 65) (blk_add_same _) z65e hC K
    have e4 : ∀ K, ldC false 1 (.ptr h1.next 0) H K = K (.int .i64 d.waits[j].1) := fun K => by rw [ldC_p kH (by omega)]; rfl
    have a1 : IntKind.i64.wrap ((j : Int) + 1) = ((j + 1 : Nat) : Int) := i64s (by omega)
    rw [drop_cons hjl]
    by_cases c : d.waits[j].1 = i
    · have g2 : icmp .eq (d.waits[j].1 : Int) (i : Int) = true := by rw [icmp_eq]; exact decide_eq_true (by omega)
      obtain ⟨h', ih, u1, u2, u3⟩ := loop_read_ hd call q (i := i) k (j + 1) (by omega) m (by omega) d.waits[j].2 H
      refine ⟨h', ?_, fun b x hb hf => u1 b x (up b x hb hf) (upf hf), fun hf => u2 (upf hf), by omega⟩
      rw [iter_succ]
      generalize iter m (fun again0 zs h => s114_l0 call q again0 (.int .i64 i) (.sl w 65 (d.waits.map wV)) (.int .i64 d.waits.length) (getN zs 0) (getN zs 1) h) = G at ih ⊢
      have sl : ∀ K, slaC 64 1 (.ptr h1.next 1) none none K = K (.ms h1.next 1 64 64 1) := fun K => slaC_p (e := 64) (a := 0) rfl rfl (by decide)
      have cv : ∀ K, cvsC (.ms h1.next 1 64 64 1) H K = K (.str d.waits[j].2) := fun K => cvsC_ms kH (by omega) (by
        have : (C.drop 1).take 64 = ofBytes d.waits[j].2 := by
          show (ofBytes d.waits[j].2).take 64 = _
          rw [List.take_of_length_le (by rw [ofBytes_len, h64]; decide)]
        rw [this, bytesOf_of])
      have hl : lastW i y (d.waits[j] :: d.waits.drop (j + 1)) = lastW i d.waits[j].2 (d.waits.drop (j + 1)) := by
        simp only [lastW, List.foldl_cons, c, if_true]
      rw [hl]
      simp only [getN_0, getN_s, s114_l0, s114_j0, cmC_int, g1, cnd_t, e1, e2, allocC_e]
      refine (e3 _).trans ?_
      simp only [faC_p, Nat.add_zero, Nat.zero_add, e4, cmC_int, g2, cnd_t, sl, cv, biC_add, a1]
      exact ih
    · have g2 : icmp .eq (d.waits[j].1 : Int) (i : Int) = false := by rw [icmp_eq]; exact decide_eq_false (by omega)
      obtain ⟨h', ih, u1, u2, u3⟩ := loop_read_ hd call q (i := i) k (j + 1) (by omega) m (by omega) y H
      refine ⟨h', ?_, fun b x hb hf => u1 b x (up b x hb hf) (upf hf), fun hf => u2 (upf hf), by omega⟩
      rw [iter_succ]
      generalize iter m (fun again0 zs h => s114_l0 call q again0 (.int .i64 i) (.sl w 65 (d.waits.map wV)) (.int .i64 d.waits.length) (getN zs 0) (getN zs 1) h) = G at ih ⊢
      have hl : lastW i y (d.waits[j] :: d.waits.drop (j + 1)) = lastW i y (d.waits.drop (j + 1)) := by
        simp only [lastW, List.foldl_cons, c, if_false]
      rw [hl]
      simp only [getN_0, getN_s, s114_l0, s114_j0, cmC_int, g1, cnd_t, e1, e2, allocC_e]
      refine (e3 _).trans ?_
      simp only [faC_p, Nat.add_zero, Nat.zero_add, e4, cmC_int, g2, cnd_f, biC_add, a1]
      exact ih
 end
end Go.AM.T
set_option maxRecDepth 100000
set_option linter.unusedVariables false
set_option linter.unusedSimpArgs false
namespace Go.AM.T
open Go Go.AM
structure Stays (S : Nat → Prop) (h h' : Heap) : Prop where
  keep : ∀ b x, h.blk b = some x → ¬ S b → h'.blk b = some x
  nx : h.next ≤ h'.next
theorem Stays.refl (S : Nat → Prop) (h : Heap) : Stays S h h := ⟨fun _ _ e _ => e, Nat.le_refl _⟩
theorem Stays.trans {S T : Nat → Prop} {a b c : Heap} (h : Stays S a b) (k : Stays T b c) (hT : ∀ x, x < a.next → T x → S x) (hf : Fit a) : Stays S a c :=
  ⟨fun x y e n => k.keep x y (h.keep x y e n) (fun t => n (hT x (hf.lt e) t)), Nat.le_trans h.nx k.nx⟩
theorem Stays.add {S : Nat → Prop} {h h' : Heap} (k : Stays S h h') (hf : Fit h) (x : Blk) : Stays S h (h'.add x) :=
  ⟨fun b y e n => by
    have := hf.lt e
    have := k.nx
    rw [blk_add_ne _ (by omega)]; exact k.keep b y e n, Nat.le_trans k.nx (Nat.le_succ _)⟩
theorem Stays.put {S : Nat → Prop} {h h' : Heap} (k : Stays S h h') {c : Nat} (hc : S c ∨ h.next ≤ c) (hf : Fit h) (x : Blk) : Stays S h (h'.put c x) :=
  ⟨fun b y e n => by
    have hl := hf.lt e
    have : b ≠ c := by
      intro ec; subst ec
      rcases hc with hc | hc
      · exact n hc
      · omega
    rw [blk_put_ne _ this]; exact k.keep b y e n, k.nx⟩
def ownS (bd : Nat) (w : Own) (b : Nat) : Prop := b = bd ∨ ∃ t, w = .tok t ∧ b = t
section
variable {m : Nat} {h : Heap} {bd bl : Nat} {w : Own} {d : Dk}
theorem t5_dread (hd : DiskAt h bd bl w d) (hm : d.waits.length + 8 ≤ m) {i : Nat} (hi : i < d.lies.length) : ∃ h', run t5.get m 114 [.ptr bd 0, .int .i64 i] h = some (.tup [.str (d.read i), .int .i64 0], h') ∧ (∀ b x, h.blk b = some x → Fit h → h'.blk b = some x) ∧ (Fit h → Fit h') ∧ h.next ≤ h'.next := by
  have e := t5_lies hd (m := m - 1) (by omega) hi
  obtain ⟨h', e2, u1, u2, u3⟩ := loop_read_ hd (run t5.get (m - 1)) (m - 1) (i := i) d.waits.length 0 (by omega) (m - 1) (by omega) d.lies[i] h
  refine ⟨h', ?_, u1, u2, u3⟩
  rw [t5_r114 (by omega)]
  have g : icmp .ne (0 : Int) 0 = false := rfl
  have l : ∀ K, ldC false 1 (.ptr bd 1) h K = K (.sl w 65 (d.waits.map wV)) := fun K => by rw [ldC_p hd.k (by simp)]; rfl
  have hr : d.read i = lastW i d.lies[i] d.waits := by unfold Dk.read; rw [List.getElem?_eq_getElem hi]; rfl
  simp only [s114, clC_of e, exC_0, exC_1, cmC_int, g, cnd_f, nilC_p, faC_p, Nat.zero_add, l, lenlC_s, List.length_map]
  rw [hr]
  exact e2
def Dk.write (d : Dk) (i : Nat) (s : List UInt8) : Dk := { d with waits := d.waits ++ [(i, s)] }
theorem t5_dwrite (hd : DiskAt h bd bl w d) (hf : Fit h) (hm : 8 ≤ m) {i : Nat} {s : List UInt8} (hi : i < d.lies.length) (hs : s.length = 64) (hw : d.waits.length < 90000) :
    ∃ w' h', run t5.get m 75 [.ptr bd 0, .int .i64 i, .str s] h = some (.int .i64 0, h') ∧ Fit h' ∧ DiskAt h' bd bl w' (d.write i s) ∧ Stays (ownS bd w) h h' ∧ (∀ b, b < h.next → ownS bd w' b → ownS bd w b) := by
  have hll := hd.ll
  have c : ∀ K, ceC .p false (.ptr bd 0) .nilp K = K (.bool false) := fun K => rfl
  have e := t5_is hd (m := m - 1) (by omega) (i : Int)
  rw [decide_eq_true (show (0 : Int) ≤ i by omega), decide_eq_true (show (i : Int) < d.lies.length by omega)] at e
  have g : icmp .ne (s.length : Int) 64 = false := by rw [icmp_ne]; exact decide_eq_false (by omega)
  let C0 : List Val := .int .i64 i :: reps 64 (.int .u8 0)
  let C1 : List Val := .int .i64 i :: ofBytes s
  have hC1 : C1.length = 65 := by simp [C1, hs]
  have hC0 : C0.length = 65 := rfl
  have ag : ∀ K, aggC z65 [(0, 1, .int .i64 (i : Int))] K = K (.agg C0) := fun K => rfl
  obtain ⟨H1, hH1⟩ : ∃ H1, (h.add (.cells z65)).put h.next (.cells C0) = H1 := ⟨_, rfl⟩
  have e1 : ∀ K, stC 65 (.ptr h.next 0) (.agg C0) (h.add (.cells z65)) K = K H1 := fun K => by rw [← hH1]; exact st_all (n := 65) (blk_add_same _) rfl rfl K
  have k1 : H1.blk h.next = some (.cells C0) := by rw [← hH1]; exact blk_put_same _ _
  have sl : ∀ K, slaC 64 1 (.ptr h.next 1) none none K = K (.ms h.next 1 64 64 1) := fun K => slaC_p (e := 64) (a := 0) rfl rfl (by decide)
  obtain ⟨H2, hH2⟩ : ∃ H2, H1.put h.next (.cells C1) = H2 := ⟨_, rfl⟩
  have e2 : ∀ K, cpyC 1 (.ms h.next 1 64 64 1) (.str s) H1 K = K (.int .i64 64) H2 := fun K => by
    rw [cpyC_str k1 (by rw [hs, hC0]; decide), hs, show s.take 64 = s from List.take_of_length_le (by omega), ← hH2]
    have : C0.take 1 ++ ofBytes s ++ C0.drop (1 + min 64 64) = C1 := by
      have a1 : C0.take 1 = [.int .i64 i] := rfl
      have a2 : C0.drop (1 + min 64 64) = [] := rfl
      rw [a1, a2, List.append_nil]; rfl
    rw [this]; rfl
  have k2 : H2.blk h.next = some (.cells C1) := by rw [← hH2]; exact blk_put_same _ _
  have hf1 : Fit H1 := hH1 ▸ (hf.add _).put _ (by simp)
  have hf2 : Fit H2 := hH2 ▸ hf1.put _ (hf1.lt k1)
  have s2 : Stays (ownS bd w) h H2 := hH2 ▸ (hH1 ▸ ((Stays.refl _ h).add hf _).put (.inr (Nat.le_refl _)) hf _).put (.inr (Nat.le_refl _)) hf _
  have up : ∀ b x, h.blk b = some x → H2.blk b = some x := fun b x hb => by
    have := hf.lt hb
    rw [← hH2, blk_put_ne _ (by omega), ← hH1, blk_put_ne _ (by omega), blk_add_ne _ (by omega)]; exact hb
  have kd := up _ _ hd.k
  have lw : ∀ K, ldC false 1 (.ptr bd 1) H2 K = K (.sl w 65 (d.waits.map wV)) := fun K => by rw [ldC_p kd (by simp)]; rfl
  have lc : ∀ K, ldC true 65 (.ptr h.next 0) H2 K = K (wV (i, s)) := fun K => ld_all k2 hC1 K
  have bs : ∀ K, bslC 65 [wV (i, s)] K = K (.sl .ex 65 [wV (i, s)]) := fun K => bslC_e (by intro v hv; simp at hv; subst hv; simp [wV, hs])
  have hg2 : Gr H2 w d.waits.length := by
    have hg := hd.gr
    cases w with
    | tok t => exact up _ _ hg
    | nl => exact hg
    | ex => trivial
    | ro => exact hg.elim
  obtain ⟨w', H3, ea, hf3, hg3, kp, t, rfl⟩ := app_one' (z := 65) (g := true) (u := .ex) (x := wV (i, s)) hf2 (l := d.waits.map wV) (by simpa using hg2) (by simp; omega)
  have kd3 := kp _ _ kd
  obtain ⟨H4, hH4⟩ : ∃ H4, H3.put bd (.cells [.ms bl 0 d.lies.length d.lies.length 64, .sl (.tok t) 65 (d.waits.map wV ++ [wV (i, s)])]) = H4 := ⟨_, rfl⟩
  have e4 : ∀ K, stC 1 (.ptr bd 1) (.sl (.tok t) 65 (d.waits.map wV ++ [wV (i, s)])) H3 K = K H4 := fun K => by rw [← hH4]; exact st_one kd3 rfl (by simp) K
  have s3 : Stays (ownS bd w) h H3 ∧ (∀ b, b < h.next → ownS bd (.tok t) b → ownS bd w b) := by
    have ex := ea (fun v h => some (v, h))
    have hsrc : source true 65 (.sl .ex 65 [wV (i, s)]) H2 = some [wV (i, s)] := rfl
    have hc : decide ((d.waits.map wV).length + [wV (i, s)].length ≤ room) = true := decide_eq_true (by simp [room]; omega)
    have n2 : H2.next = h.next + 1 := by rw [← hH2, ← hH1]; rfl
    cases w with
    | ro => exact hg2.elim
    | tok t0 =>
      have ht : H2.blk t0 = some (.tok (d.waits.map wV).length) := by rw [List.length_map]; exact hg2
      simp only [appC, hsrc, hc, ht, Nat.beq_refl, Bool.and_self, cond_true, List.length_nil, Nat.add_zero, Option.some.injEq, Prod.mk.injEq, Val.sl.injEq, Own.tok.injEq] at ex
      obtain ⟨⟨rfl, -⟩, hh⟩ := ex
      exact ⟨hh ▸ s2.put (.inl (.inr ⟨t0, rfl, rfl⟩)) hf _, fun b _ hb => hb⟩
    | nl =>
      simp only [appC, hsrc, hc, Nat.beq_refl, Bool.and_self, cond_true, List.length_nil, Nat.add_zero, Option.some.injEq, Prod.mk.injEq, Val.sl.injEq, Own.tok.injEq] at ex
      obtain ⟨⟨rfl, -⟩, hh⟩ := ex
      refine ⟨hh ▸ s2.add hf _, fun b hb hb2 => ?_⟩
      rcases hb2 with hb2 | ⟨t, ht, hb2⟩
      · exact .inl hb2
      · cases ht; omega
    | ex =>
      simp only [appC, hsrc, hc, Nat.beq_refl, Bool.and_self, cond_true, List.length_nil, Nat.add_zero, Option.some.injEq, Prod.mk.injEq, Val.sl.injEq, Own.tok.injEq] at ex
      obtain ⟨⟨rfl, -⟩, hh⟩ := ex
      refine ⟨hh ▸ s2.add hf _, fun b hb hb2 => ?_⟩
      rcases hb2 with hb2 | ⟨t, ht, hb2⟩
      · exact .inl hb2
      · cases ht; omega
  refine ⟨.tok t, H4, ?_, hH4 ▸ hf3.put _ (hf3.lt kd3), ?_, hH4 ▸ s3.1.put (.inl (.inl rfl)) hf _, s3.2⟩
  · rw [t5_r75 (by omega)]
    simp only [s75, c, cnd_f, clC_of e, Bool.and_self, notC_b, Bool.not_true, lensC_s, cmC_int, g, allocC_e]
    refine (ag _).trans ?_
    refine (e1 _).trans ?_
    simp only [faC_p, Nat.zero_add, Nat.add_zero, sl, e2, nilC_p, lw, lc, bs, ea, e4]
  · refine ⟨?_, ?_, ?_, hd.l64, ?_, ?_, hd.ll, hd.l1, hd.ne⟩
    · rw [← hH4, blk_put_same]
      simp [Dk.write]
    · rw [← hH4, blk_put_ne _ hd.ne]; exact kp _ _ (up _ _ hd.kl)
    · show H4.blk t = _
      have ht : H3.blk t = some (.tok (d.waits.length + 1)) := by simpa [Gr] using hg3
      have nt : t ≠ bd := by intro e; subst e; rw [kd3] at ht; cases ht
      rw [← hH4, blk_put_ne _ nt, ht]; simp [Dk.write]
    · intro x hx
      rcases List.mem_append.1 hx with hx | hx
      · exact hd.w64 x hx
      · simp at hx; subst hx; exact hs
    · simp [Dk.write]; omega
 end
end Go.AM.T
set_option maxRecDepth 100000
set_option linter.unusedVariables false
set_option linter.unusedSimpArgs false
namespace Go.AM.T
open Go Go.AM
structure ViewQ (h : Heap) (bv bd bl : Nat) (w : Own) (from_ n steps : Nat) (d : Dk) : Prop where
  kv : h.blk bv = some (.cells [.ptr bd 0, .int .i64 from_, .int .i64 n, .int .i64 (-1), .int .i64 steps, .bool false])
  dk : DiskAt h bd bl w d
  fit : from_ + n ≤ d.lies.length
  nd : bv ≠ bd
  nl : bv ≠ bl
  st : steps < 1000000000
def ownV (bv bd : Nat) (w : Own) (b : Nat) : Prop := b = bv ∨ ownS bd w b
theorem DiskAt.stays {h h' : Heap} {bd bl : Nat} {w : Own} {d : Dk} {S : Nat → Prop} (hd : DiskAt h bd bl w d) (s : Stays S h h') (h1 : ¬ S bd) (h2 : ¬ S bl) (h3 : ∀ t, w = .tok t → ¬ S t) : DiskAt h' bd bl w d := by
  refine ⟨s.keep _ _ hd.k h1, s.keep _ _ hd.kl h2, ?_, hd.l64, hd.w64, hd.wl, hd.ll, hd.l1, hd.ne⟩
  have hg := hd.gr
  cases w with
  | tok t => exact s.keep _ _ hg (h3 t rfl)
  | nl => exact hg
  | ex => trivial
  | ro => exact hg.elim
theorem ViewQ.stays {h h' : Heap} {bv bd bl : Nat} {w : Own} {f n steps : Nat} {d : Dk} {S : Nat → Prop} (hv : ViewQ h bv bd bl w f n steps d) (s : Stays S h h') (h0 : ¬ S bv) (h1 : ¬ S bd) (h2 : ¬ S bl) (h3 : ∀ t, w = .tok t → ¬ S t) : ViewQ h' bv bd bl w f n steps d :=
  ⟨s.keep _ _ hv.kv h0, hv.dk.stays s h1 h2 h3, hv.fit, hv.nd, hv.nl, hv.st⟩
theorem DiskAt.tokne {h : Heap} {bd bl : Nat} {w : Own} {d : Dk} (hd : DiskAt h bd bl w d) {b : Nat} {l : List Val} (hb : h.blk b = some (.cells l)) : ∀ t, w = .tok t → b ≠ t := by
  intro t ht e
  subst e ht
  have : h.blk b = some (.tok d.waits.length) := hd.gr
  rw [hb] at this; cases this
section
variable {m : Nat} {h : Heap} {bv bd bl f n steps : Nat} {w : Own} {d : Dk}
theorem t5_vis (hv : ViewQ h bv bd bl w f n steps d) (hm : 2 ≤ m) (i : Int) : run t5.get m 72 [.ptr bv 0, .int .i64 i] h = some (.bool (decide (0 ≤ i) && decide (i < n)), h) := by
  rw [t5_r72 (by omega)]
  have l : ∀ K, ldC false 1 (.ptr bv 2) h K = K (.int .i64 n) := fun K => by rw [ldC_p hv.kv (by simp)]; rfl
  by_cases c1 : 0 ≤ i
  · have g1 : icmp .ge i 0 = true := decide_eq_true c1
    simp only [s72, cmC_int, g1, gdC_tt, elim_some, nilC_p, faC_p, Nat.zero_add, l, icmp_lt, pickC_t, decide_eq_true c1, Bool.true_and]
  · have g1 : icmp .ge i 0 = false := decide_eq_false c1
    simp only [s72, cmC_int, g1, gdC_ft, gdC_u, pickC_f, decide_eq_false c1, Bool.false_and]
theorem t5_vread (hv : ViewQ h bv bd bl w f n steps d) (hm : d.waits.length + 12 ≤ m) {i : Nat} (hi : i < n) : ∃ h', run t5.get m 62 [.ptr bv 0, .int .i64 i] h = some (.tup [.str (d.read (f + i)), .int .i64 0], h') ∧ (∀ b x, h.blk b = some x → Fit h → h'.blk b = some x) ∧ (Fit h → Fit h') ∧ h.next ≤ h'.next := by
  have hfit := hv.fit
  have hll := hv.dk.ll
  have e := t5_vis hv (m := m - 1) (by omega) (i : Int)
  rw [decide_eq_true (show (0 : Int) ≤ i by omega), decide_eq_true (show (i : Int) < n by omega)] at e
  obtain ⟨h', e2, u⟩ := t5_dread hv.dk (m := m - 1) (i := f + i) (by omega) (by omega)
  refine ⟨h', ?_, u⟩
  rw [t5_r62 (by omega)]
  have c : ∀ K, ceC .p false (.ptr bv 0) .nilp K = K (.bool false) := fun K => rfl
  have l0 : ∀ K, ldC false 1 (.ptr bv 0) h K = K (.ptr bd 0) := fun K => by rw [ldC_p hv.kv (by simp)]; rfl
  have l1 : ∀ K, ldC false 1 (.ptr bv 1) h K = K (.int .i64 f) := fun K => by rw [ldC_p hv.kv (by simp)]; rfl
  have l5 : ∀ K, ldC false 1 (.ptr bv 5) h K = K (.bool false) := fun K => by rw [ldC_p hv.kv (by simp)]; rfl
  have a : IntKind.i64.wrap ((f : Int) + (i : Int)) = ((f + i : Nat) : Int) := by rw [wrap_i64 (by omega) (by omega)]; rfl
  simp only [s62, c, cnd_f, clC_of e, Bool.and_self, notC_b, Bool.not_true, nilC_p, faC_p, Nat.zero_add, Nat.add_zero, l5, l0, l1, biC_add, a, clC_of e2, exC_0, exC_1]
theorem t5_vwrite (hv : ViewQ h bv bd bl w f n steps d) (hf : Fit h) (hm : 20 ≤ m) {i : Nat} {s : List UInt8} (hi : i < n) (hs : s.length = 64) (hw : d.waits.length < 90000) (hst : steps < 900000000) :
    ∃ w' h', run t5.get m 20 [.ptr bv 0, .int .i64 i, .str s] h = some (.int .i64 0, h') ∧ Fit h' ∧ ViewQ h' bv bd bl w' f n (steps + 1) (d.write (f + i) s) ∧ Stays (ownV bv bd w) h h' ∧ (∀ b, b < h.next → ownV bv bd w' b → ownV bv bd w b) := by
  have hfit := hv.fit
  have hll := hv.dk.ll
  obtain ⟨H1, hH1⟩ : ∃ H1, ((h.add (.cells [.ptr bv 0])).add (.cells [.int .i64 i])).add (.cells [.str s]) = H1 := ⟨_, rfl⟩
  have hf1 : Fit H1 := hH1 ▸ ((hf.add _).add _).add _
  have k0 : H1.blk h.next = some (.cells [.ptr bv 0]) := by
    rw [← hH1, blk_add_ne _ (by simp only [Heap.next_add]; omega), blk_add_ne _ (by simp only [Heap.next_add]; omega)]; exact blk_add_same _
  have k1 : H1.blk (h.next + 1) = some (.cells [.int .i64 i]) := by
    rw [← hH1, blk_add_ne _ (by simp only [Heap.next_add]; omega)]; exact blk_add_same (h := h.add (.cells [.ptr bv 0])) _
  have k2 : H1.blk (h.next + 2) = some (.cells [.str s]) := by rw [← hH1]; exact blk_add_same (h := (h.add (.cells [.ptr bv 0])).add (.cells [.int .i64 i])) _
  have s1 : Stays (fun _ => False) h H1 := hH1 ▸ (((Stays.refl _ h).add hf _).add hf _).add hf _
  have hv1 : ViewQ H1 bv bd bl w f n steps d := hv.stays s1 (fun h => h) (fun h => h) (fun h => h) (fun _ _ h => h)
  have e := t5_vis hv1 (m := m - 1) (by omega) (i : Int)
  rw [decide_eq_true (show (0 : Int) ≤ i by omega), decide_eq_true (show (i : Int) < n by omega)] at e
  obtain ⟨H2, hH2⟩ : ∃ H2, H1.put bv (.cells [.ptr bd 0, .int .i64 f, .int .i64 n, .int .i64 (-1), .int .i64 (steps + 1 : Nat), .bool false]) = H2 := ⟨_, rfl⟩
  have nbv : bv < h.next := hf.lt hv.kv
  have s2 : Stays (fun b => b = bv) H1 H2 := hH2 ▸ (Stays.refl (fun b => b = bv) H1).put (c := bv) (.inl rfl) hf1 _
  have hf2 : Fit H2 := hH2 ▸ hf1.put _ (hf1.lt hv1.kv)
  have dk2 : DiskAt H2 bd bl w d := hv1.dk.stays s2 (fun e => hv.nd e.symm) (fun e => hv.nl e.symm) (fun t ht e => hv1.dk.tokne hv1.kv t ht e.symm)
  have kv2 : H2.blk bv = some (.cells [.ptr bd 0, .int .i64 f, .int .i64 n, .int .i64 (-1), .int .i64 (steps + 1 : Nat), .bool false]) := by rw [← hH2]; exact blk_put_same _ _
  have q0 := s2.keep _ _ k0 (by omega)
  have q1 := s2.keep _ _ k1 (by omega)
  have q2 := s2.keep _ _ k2 (by omega)
  obtain ⟨w', h', ew, hf3, dk3, s3, o3⟩ := t5_dwrite dk2 hf2 (m := m - 3) (i := f + i) (s := s) (by omega) (by omega) hs hw
  have a : IntKind.i64.wrap ((f : Int) + (i : Int)) = ((f + i : Nat) : Int) := by rw [wrap_i64 (by omega) (by omega)]; rfl
  have ec : run t5.get (m - 2) 74 [.ptr h.next 0, .ptr (h.next + 1) 0, .ptr (h.next + 2) 0] H2 = some (.int .i64 0, h') := by
    rw [t5_r74 (by omega)]
    have r0 : ∀ K, ldC false 1 (.ptr h.next 0) H2 K = K (.ptr bv 0) := fun K => by rw [ldC_p q0 (by simp)]; rfl
    have r1 : ∀ K, ldC false 1 (.ptr (h.next + 1) 0) H2 K = K (.int .i64 i) := fun K => by rw [ldC_p q1 (by simp)]; rfl
    have r2 : ∀ K, ldC false 1 (.ptr (h.next + 2) 0) H2 K = K (.str s) := fun K => by rw [ldC_p q2 (by simp)]; rfl
    have v0 : ∀ K, ldC false 1 (.ptr bv 0) H2 K = K (.ptr bd 0) := fun K => by rw [ldC_p kv2 (by simp)]; rfl
    have v1 : ∀ K, ldC false 1 (.ptr bv 1) H2 K = K (.int .i64 f) := fun K => by rw [ldC_p kv2 (by simp)]; rfl
    rw [show m - 2 - 1 = m - 3 by omega]
    simp only [s74, r0, nilC_p, faC_p, Nat.zero_add, Nat.add_zero, v0, v1, r1, biC_add, a, r2, clC_of ew]
  have es : run t5.get (m - 1) 73 [.ptr bv 0, .func 74 [.ptr h.next 0, .ptr (h.next + 1) 0, .ptr (h.next + 2) 0]] H1 = some (.int .i64 0, h') := by
    rw [t5_r73 (by omega)]
    have v3 : ∀ K, ldC false 1 (.ptr bv 3) H1 K = K (.int .i64 (-1)) := fun K => by rw [ldC_p hv1.kv (by simp)]; rfl
    have v4 : ∀ K, ldC false 1 (.ptr bv 4) H1 K = K (.int .i64 steps) := fun K => by rw [ldC_p hv1.kv (by simp)]; rfl
    have v5 : ∀ K, ldC false 1 (.ptr bv 5) H1 K = K (.bool false) := fun K => by rw [ldC_p hv1.kv (by simp)]; rfl
    have g1 : icmp .eq (-1) 0 = false := rfl
    have g2 : icmp .gt (-1) 0 = false := rfl
    have a1 : IntKind.i64.wrap ((steps : Int) + 1) = ((steps + 1 : Nat) : Int) := i64s (by omega)
    have st : ∀ K, stC 1 (.ptr bv 4) (.int .i64 (steps + 1 : Nat)) H1 K = K H2 := fun K => by rw [← hH2]; exact st_one hv1.kv rfl (by simp) K
    have cv : ∀ K, cvC (run t5.get (m - 1 - 1)) (.func 74 [.ptr h.next 0, .ptr (h.next + 1) 0, .ptr (h.next + 2) 0]) [] H2 K = K (.int .i64 0) h' := fun K => by
      rw [show m - 1 - 1 = m - 2 by omega]
      exact clC_of ec
    simp only [s73, s73_j0, s73_j1, nilC_p, faC_p, Nat.zero_add, v3, cmC_int, g1, cnd_f, v5, g2, v4, biC_add, a1, st, cv]
  have s123 : Stays (ownV bv bd w) h h' := by
    refine Stays.trans (Stays.trans (S := ownV bv bd w) ⟨fun b x e _ => s1.keep b x e (fun h => h), s1.nx⟩ s2 (fun b _ e => .inl e) hf) s3 (fun b _ e => .inr e) hf
  have n2 : H2.next = h.next + 3 := by rw [← hH2, ← hH1]; rfl
  refine ⟨w', h', ?_, hf3, ⟨?_, dk3, hfit, hv.nd, hv.nl, by omega⟩, s123, fun b hb hb2 => ?_⟩
  · rw [t5_r20 (by omega)]
    have bx : ∀ G v K, cells v = [v] → boxC 1 v G K = K (.ptr G.next 0) (G.add (.cells [v])) := fun G v K hv => by rw [boxC_e (by rw [hv]; rfl), hv]
    have c : ∀ K, ceC .p false (.ptr bv 0) .nilp K = K (.bool false) := fun K => rfl
    have r0 : ∀ K, ldC false 1 (.ptr h.next 0) H1 K = K (.ptr bv 0) := fun K => by rw [ldC_p k0 (by simp)]; rfl
    have r1 : ∀ K, ldC false 1 (.ptr (h.next + 1) 0) H1 K = K (.int .i64 i) := fun K => by rw [ldC_p k1 (by simp)]; rfl
    have r2 : ∀ K, ldC false 1 (.ptr (h.next + 2) 0) H1 K = K (.str s) := fun K => by rw [ldC_p k2 (by simp)]; rfl
    have g : icmp .ne (s.length : Int) 64 = false := by rw [icmp_ne]; exact decide_eq_false (by omega)
    have hn2 : h.next + 1 + 1 = h.next + 2 := rfl
    simp only [s20]
    rw [bx h _ _ rfl, bx _ _ _ rfl, bx _ _ _ rfl]
    simp only [Heap.next_add, hH1, hn2, r0, c, cnd_f, r1, clC_of e, Bool.and_self, notC_b, Bool.not_true, r2, lensC_s, cmC_int, g, clC_of es]
  · exact s3.keep _ _ kv2 (fun hb => by
      rcases hb with hb | ⟨t, ht, hb⟩
      · exact hv.nd hb
      · exact dk2.tokne kv2 t ht hb)
  · rcases hb2 with hb2 | hb2
    · exact .inl hb2
    · exact .inr (o3 b (by omega) hb2)
 end
end Go.AM.T
