import Derived.Test.YtfpkdeokpomocaaG43
set_option linter.constructorNameAsVariable false
set_option linter.unusedVariables false
set_option linter.unusedSimpArgs false
set_option maxRecDepth 100000
set_option linter.unusedVariables false
set_option linter.unusedSimpArgs false
namespace Go.AM.T
open Go Go.AM
theorem eqv_int (k : IntKind) (a : Int) : eqv (.int k a) (.int k a) = true := by simp [eqv]
theorem eqv_str (s : List UInt8) : eqv (.str s) (.str s) = true := by simp [eqv, eqB_d]
theorem cat3 (a b : List UInt8) : (a ++ b).length = a.length + b.length := List.length_append
section
variable {m : Nat} {h : Heap}
theorem t1_rfsum {st a k : Nat} {p : List UInt8} (hm : 5 ≤ m) (h1 : st < 4294967296) (h2 : a < 65536) (h3 : k < 256) (h4 : p.length < 10000) (h : Heap) : run t1.get m 119 [.int .u32 st, .int .i64 a, .int .i64 k, .str p] h = some (.int .u32 (fsum st a (UInt8.ofNat k :: p) : Nat), h) := by
  rw [t1_r119 (by omega)]
  have e1 : ∀ G, run t1.get (m - 1) 116 [.int .u64 (st : Int), .int .i64 4] G = some (.str (be 4 st), G) := fun G => by rw [t1_r116 (by omega)]; exact p_rfixed (n := 4) (by omega) (by omega)
  have e2 : ∀ G, run t1.get (m - 1) 116 [.int .u64 (a : Int), .int .i64 2] G = some (.str (be 2 a), G) := fun G => by rw [t1_r116 (by omega)]; exact p_rfixed (n := 2) (by omega) (by omega)
  have e3 : ∀ G, run t1.get (m - 1) 116 [.int .u64 ((p.length + 1 : Nat) : Int), .int .i64 2] G = some (.str (be 2 (p.length + 1)), G) := fun G => by rw [t1_r116 (by omega)]; exact p_rfixed (n := 2) (by omega) (by omega)
  have e0 : (p.length : Int) + 1 = ((p.length + 1 : Nat) : Int) := rfl
  have a1 : ∀ K, addSC (.str (be 4 st)) (.str (be 2 a)) K = K (.str (be 4 st ++ be 2 a)) := fun K => addSC_s _ _ (by simp [be_len])
  have a2 : ∀ K, addSC (.str (be 4 st ++ be 2 a)) (.str (be 2 (p.length + 1))) K = K (.str (be 4 st ++ be 2 a ++ be 2 (p.length + 1))) := fun K => addSC_s _ _ (by simp [be_len])
  have b1 : ∀ K, bslC 1 [.int .u8 (k : Int)] K = K (.sl .ex 1 [.int .u8 (k : Int)]) := fun K => rfl
  have b2 : ∀ G K, cvsC (.sl .ex 1 [.int .u8 (k : Int)]) G K = K (.str [UInt8.ofNat k]) := fun G K => cvsC_sl (by simp only [bytesOf, byteOf_i, Int.toNat_natCast])
  have a3 : ∀ K, addSC (.str (be 4 st ++ be 2 a ++ be 2 (p.length + 1))) (.str [UInt8.ofNat k]) K = K (.str (be 4 st ++ be 2 a ++ be 2 (p.length + 1) ++ [UInt8.ofNat k])) := fun K => addSC_s _ _ (by simp [be_len])
  have a4 : ∀ K, addSC (.str (be 4 st ++ be 2 a ++ be 2 (p.length + 1) ++ [UInt8.ofNat k])) (.str p) K = K (.str (be 4 st ++ be 2 a ++ be 2 (p.length + 1) ++ [UInt8.ofNat k] ++ p)) := fun K => addSC_s _ _ (by simp [be_len]; omega)
  have e5 : ∀ G, run t1.get (m - 1) 117 [.int .u32 0, .str (be 4 st ++ be 2 a ++ be 2 (p.length + 1) ++ [UInt8.ofNat k] ++ p)] G = some (.int .u32 (fsum st a (UInt8.ofNat k :: p) : Nat), G) := fun G => by
    rw [t1_r117 (by omega)]
    have : fsum st a (UInt8.ofNat k :: p) = crc 0 (be 4 st ++ be 2 a ++ be 2 (p.length + 1) ++ [UInt8.ofNat k] ++ p) := by simp [fsum, List.append_assoc]
    rw [this]
    exact p_crc (b := 0) (by decide) (by simp [be_len]; omega)
  simp (disch := omega) only [↓cmC_int, ↓cmC_str, ↓biC_add, ↓biC_sub, ↓biC_mul, ↓notC_b, ↓negC_i, ↓cviC_i, ↓cssC_s, ↓cnd_t, ↓cnd_f, ↓pickC_t, ↓pickC_f, ↓gdC_tt, ↓gdC_ff, ↓gdC_tf, ↓gdC_ft, ↓gdC_u, ↓elim_some, ↓exC_0, ↓exC_1, ↓exC_2, ↓exC_3, ↓lensC_s, ↓lenlC_s, ↓lenlC_m, ↓mnC_i, ↓mxC_i, ↓getN_0, ↓getN_s, ↓allocC_e, ↓nilC_p, ↓nilC_e, ↓nilC_f, ↓faC_p, ↓ldC_m, ↓ldK_some, ↓stC_m, ↓stK_some, ↓boxC_m, ↓aggC_m, ↓shC_shrN, ↓ixpC_p, ↓addSC_s, ↓iter_succ, ↓if_true, ↓if_false, ↓reduceIte, shC_shrN, ixpC_p, addSC_s, icmp_eq, icmp_ne, icmp_lt, icmp_le, icmp_gt, icmp_ge, decide_true, decide_false, Bool.not_true, Bool.not_false, Bool.true_and, Bool.and_true, Bool.false_and, Bool.and_false, wrap_i64, wrap_u64, wrap_u32, wrap_u8, cs_put, cs_add, Heap.next_put, Heap.next_add, cells_int, cells_str, cells_bool, cells_ptr, cells_sl, cells_ms, cells_nilp, cells_func, cells_agg, mk_t, mk_f, putA, putN, cond_true, cond_false, Nat.beq_refl, Option.map_some, List.length_cons, List.length_nil, List.drop_succ_cons, List.drop_zero, List.drop_nil, List.take_succ_cons, List.take_zero, List.take_nil, List.cons_append, List.nil_append, List.append_nil, Nat.zero_add, Nat.add_zero, Int.toNat_natCast, Int.toNat_zero, Int.toNat_one, ne_eq, not_true_eq_false, not_false_eq_true, and_self, and_true, true_and, eq_self, Nat.reduceAdd, Nat.reduceLeDiff, Nat.reduceMul, Nat.reduceSub, Nat.left_eq_add, Nat.add_eq_left, Nat.reduceEqDiff, Nat.one_ne_zero, s119, ↓clC_of (e1 _), ↓clC_of (e2 _), e0, ↓clC_of (e3 _), ↓a1, ↓a2, ↓b1, ↓b2, ↓a3, ↓a4, ↓clC_of (e5 _)]
theorem t1_rfencode {st a k : Nat} {p : List UInt8} (hm : 9 ≤ m) (h1 : st < 4294967296) (h2 : a < 65536) (h3 : k < 256) (h4 : p.length < 10000) (h : Heap) :
    ∃ h', run t1.get m 68 [.int .u32 st, .int .i64 a, .agg [.int .i64 k, .str p]] h = some (.str (encF st a (UInt8.ofNat k :: p)), h') := by
  refine ⟨h.add (.cells [.int .i64 k, .str p]), ?_⟩
  rw [t1_r68 (by omega)]
  have b1 : ∀ K, bslC 1 [.int .u8 (k : Int)] K = K (.sl .ex 1 [.int .u8 (k : Int)]) := fun K => rfl
  have b2 : ∀ G K, cvsC (.sl .ex 1 [.int .u8 (k : Int)]) G K = K (.str [UInt8.ofNat k]) := fun G K => cvsC_sl (by simp only [bytesOf, byteOf_i, Int.toNat_natCast])
  have e0 : (p.length : Int) + 1 = ((p.length + 1 : Nat) : Int) := rfl
  have e3 : ∀ G, run t1.get (m - 1) 116 [.int .u64 ((p.length + 1 : Nat) : Int), .int .i64 2] G = some (.str (be 2 (p.length + 1)), G) := fun G => by rw [t1_r116 (by omega)]; exact p_rfixed (n := 2) (by omega) (by omega)
  have e4 : ∀ G, run t1.get (m - 1) 119 [.int .u32 (st : Int), .int .i64 (a : Int), .int .i64 (k : Int), .str p] G = some (.int .u32 (fsum st a (UInt8.ofNat k :: p) : Nat), G) := fun G => t1_rfsum (by omega) h1 h2 h3 h4 G
  have hf := fsum_lt st a (UInt8.ofNat k :: p)
  have e5 : ∀ G, run t1.get (m - 1) 116 [.int .u64 ((fsum st a (UInt8.ofNat k :: p) : Nat) : Int), .int .i64 4] G = some (.str (be 4 (fsum st a (UInt8.ofNat k :: p))), G) := fun G => by rw [t1_r116 (by omega)]; exact p_rfixed (n := 4) (by omega) (by omega)
  generalize hfs : fsum st a (UInt8.ofNat k :: p) = fs at *
  have a1 : ∀ K, addSC (.str (be 2 (p.length + 1))) (.str (be 4 fs)) K = K (.str (be 2 (p.length + 1) ++ be 4 fs)) := fun K => addSC_s _ _ (by simp [be_len])
  have a2 : ∀ K, addSC (.str (be 2 (p.length + 1) ++ be 4 fs)) (.str [UInt8.ofNat k]) K = K (.str (be 2 (p.length + 1) ++ be 4 fs ++ [UInt8.ofNat k])) := fun K => addSC_s _ _ (by simp [be_len])
  have a3 : ∀ K, addSC (.str (be 2 (p.length + 1) ++ be 4 fs ++ [UInt8.ofNat k])) (.str p) K = K (.str (encF st a (UInt8.ofNat k :: p))) := fun K => by
    rw [addSC_s _ _ (by simp [be_len]; omega)]
    simp [encF, hfs, List.append_assoc]
  simp (disch := omega) only [↓cmC_int, ↓cmC_str, ↓biC_add, ↓biC_sub, ↓biC_mul, ↓notC_b, ↓negC_i, ↓cviC_i, ↓cssC_s, ↓cnd_t, ↓cnd_f, ↓pickC_t, ↓pickC_f, ↓gdC_tt, ↓gdC_ff, ↓gdC_tf, ↓gdC_ft, ↓gdC_u, ↓elim_some, ↓exC_0, ↓exC_1, ↓exC_2, ↓exC_3, ↓lensC_s, ↓lenlC_s, ↓lenlC_m, ↓mnC_i, ↓mxC_i, ↓getN_0, ↓getN_s, ↓allocC_e, ↓nilC_p, ↓nilC_e, ↓nilC_f, ↓faC_p, ↓ldC_m, ↓ldK_some, ↓stC_m, ↓stK_some, ↓boxC_m, ↓aggC_m, ↓shC_shrN, ↓ixpC_p, ↓addSC_s, ↓iter_succ, ↓if_true, ↓if_false, ↓reduceIte, shC_shrN, ixpC_p, addSC_s, icmp_eq, icmp_ne, icmp_lt, icmp_le, icmp_gt, icmp_ge, decide_true, decide_false, Bool.not_true, Bool.not_false, Bool.true_and, Bool.and_true, Bool.false_and, Bool.and_false, wrap_i64, wrap_u64, wrap_u32, wrap_u8, cs_put, cs_add, Heap.next_put, Heap.next_add, cells_int, cells_str, cells_bool, cells_ptr, cells_sl, cells_ms, cells_nilp, cells_func, cells_agg, mk_t, mk_f, putA, putN, cond_true, cond_false, Nat.beq_refl, Option.map_some, List.length_cons, List.length_nil, List.drop_succ_cons, List.drop_zero, List.drop_nil, List.take_succ_cons, List.take_zero, List.take_nil, List.cons_append, List.nil_append, List.append_nil, Nat.zero_add, Nat.add_zero, Int.toNat_natCast, Int.toNat_zero, Int.toNat_one, ne_eq, not_true_eq_false, not_false_eq_true, and_self, and_true, true_and, eq_self, Nat.reduceAdd, Nat.reduceLeDiff, Nat.reduceMul, Nat.reduceSub, Nat.left_eq_add, Nat.add_eq_left, Nat.reduceEqDiff, Nat.one_ne_zero, s68, e0, ↓b1, ↓b2, ↓clC_of (e3 _), ↓clC_of (e4 _), ↓clC_of (e5 _), ↓a1, ↓a2, ↓a3, eqv_int, eqv_str, ↓cond_true]
theorem t1_rplace {a : Int} (hm : 2 ≤ m) (h : Heap) : run t1.get m 118 [.int .i64 a] h = some (.bool (okPlace a), h) := by
  rw [t1_r118 (by omega)]
  by_cases h1 : 1 ≤ a
  · by_cases h2 : a < 16 <;> simp [s118, okPlace, h1, h2]
  · simp [s118, okPlace, h1]
def wrongM (a k : Int) (p : List UInt8) : Nat := if k < 1 ∨ 255 < k ∨ okPlace a = false then 1 else if 773 < p.length then 2 else 0
theorem t1_rwrong {a k : Int} {p : List UInt8} (hm : 4 ≤ m) (h : Heap) :
    ∃ h', run t1.get m 67 [.int .i64 a, .agg [.int .i64 k, .str p]] h = some (.int .i64 (wrongM a k p : Nat), h') := by
  refine ⟨h.add (.cells [.int .i64 k, .str p]), ?_⟩
  rw [t1_r67 (by omega)]
  by_cases c1 : k < 1
  · have : wrongM a k p = 1 := if_pos (.inl c1)
    rw [this]
    simp (disch := omega) only [↓cmC_int, ↓cmC_str, ↓biC_add, ↓biC_sub, ↓biC_mul, ↓notC_b, ↓negC_i, ↓cviC_i, ↓cssC_s, ↓cnd_t, ↓cnd_f, ↓pickC_t, ↓pickC_f, ↓gdC_tt, ↓gdC_ff, ↓gdC_tf, ↓gdC_ft, ↓gdC_u, ↓elim_some, ↓exC_0, ↓exC_1, ↓exC_2, ↓exC_3, ↓lensC_s, ↓lenlC_s, ↓lenlC_m, ↓mnC_i, ↓mxC_i, ↓getN_0, ↓getN_s, ↓allocC_e, ↓nilC_p, ↓nilC_e, ↓nilC_f, ↓faC_p, ↓ldC_m, ↓ldK_some, ↓stC_m, ↓stK_some, ↓boxC_m, ↓aggC_m, ↓shC_shrN, ↓ixpC_p, ↓addSC_s, ↓iter_succ, ↓if_true, ↓if_false, ↓reduceIte, shC_shrN, ixpC_p, addSC_s, icmp_eq, icmp_ne, icmp_lt, icmp_le, icmp_gt, icmp_ge, decide_true, decide_false, Bool.not_true, Bool.not_false, Bool.true_and, Bool.and_true, Bool.false_and, Bool.and_false, wrap_i64, wrap_u64, wrap_u32, wrap_u8, cs_put, cs_add, Heap.next_put, Heap.next_add, cells_int, cells_str, cells_bool, cells_ptr, cells_sl, cells_ms, cells_nilp, cells_func, cells_agg, mk_t, mk_f, putA, putN, cond_true, cond_false, Nat.beq_refl, Option.map_some, List.length_cons, List.length_nil, List.drop_succ_cons, List.drop_zero, List.drop_nil, List.take_succ_cons, List.take_zero, List.take_nil, List.cons_append, List.nil_append, List.append_nil, Nat.zero_add, Nat.add_zero, Int.toNat_natCast, Int.toNat_zero, Int.toNat_one, ne_eq, not_true_eq_false, not_false_eq_true, and_self, and_true, true_and, eq_self, Nat.reduceAdd, Nat.reduceLeDiff, Nat.reduceMul, Nat.reduceSub, Nat.left_eq_add, Nat.add_eq_left, Nat.reduceEqDiff, Nat.one_ne_zero, s67, c1]
    rfl
  by_cases c2 : 255 < k
  · have : wrongM a k p = 1 := if_pos (.inr (.inl c2))
    rw [this]
    simp (disch := omega) only [↓cmC_int, ↓cmC_str, ↓biC_add, ↓biC_sub, ↓biC_mul, ↓notC_b, ↓negC_i, ↓cviC_i, ↓cssC_s, ↓cnd_t, ↓cnd_f, ↓pickC_t, ↓pickC_f, ↓gdC_tt, ↓gdC_ff, ↓gdC_tf, ↓gdC_ft, ↓gdC_u, ↓elim_some, ↓exC_0, ↓exC_1, ↓exC_2, ↓exC_3, ↓lensC_s, ↓lenlC_s, ↓lenlC_m, ↓mnC_i, ↓mxC_i, ↓getN_0, ↓getN_s, ↓allocC_e, ↓nilC_p, ↓nilC_e, ↓nilC_f, ↓faC_p, ↓ldC_m, ↓ldK_some, ↓stC_m, ↓stK_some, ↓boxC_m, ↓aggC_m, ↓shC_shrN, ↓ixpC_p, ↓addSC_s, ↓iter_succ, ↓if_true, ↓if_false, ↓reduceIte, shC_shrN, ixpC_p, addSC_s, icmp_eq, icmp_ne, icmp_lt, icmp_le, icmp_gt, icmp_ge, decide_true, decide_false, Bool.not_true, Bool.not_false, Bool.true_and, Bool.and_true, Bool.false_and, Bool.and_false, wrap_i64, wrap_u64, wrap_u32, wrap_u8, cs_put, cs_add, Heap.next_put, Heap.next_add, cells_int, cells_str, cells_bool, cells_ptr, cells_sl, cells_ms, cells_nilp, cells_func, cells_agg, mk_t, mk_f, putA, putN, cond_true, cond_false, Nat.beq_refl, Option.map_some, List.length_cons, List.length_nil, List.drop_succ_cons, List.drop_zero, List.drop_nil, List.take_succ_cons, List.take_zero, List.take_nil, List.cons_append, List.nil_append, List.append_nil, Nat.zero_add, Nat.add_zero, Int.toNat_natCast, Int.toNat_zero, Int.toNat_one, ne_eq, not_true_eq_false, not_false_eq_true, and_self, and_true, true_and, eq_self, Nat.reduceAdd, Nat.reduceLeDiff, Nat.reduceMul, Nat.reduceSub, Nat.left_eq_add, Nat.add_eq_left, Nat.reduceEqDiff, Nat.one_ne_zero, s67, c1, c2]
    rfl
  have e1 : ∀ G, run t1.get (m - 1) 118 [.int .i64 a] G = some (.bool (okPlace a), G) := fun G => t1_rplace (by omega) G
  cases c3 : okPlace a with
  | false =>
    have : wrongM a k p = 1 := if_pos (.inr (.inr c3))
    rw [this]
    rw [c3] at e1
    simp (disch := omega) only [↓cmC_int, ↓cmC_str, ↓biC_add, ↓biC_sub, ↓biC_mul, ↓notC_b, ↓negC_i, ↓cviC_i, ↓cssC_s, ↓cnd_t, ↓cnd_f, ↓pickC_t, ↓pickC_f, ↓gdC_tt, ↓gdC_ff, ↓gdC_tf, ↓gdC_ft, ↓gdC_u, ↓elim_some, ↓exC_0, ↓exC_1, ↓exC_2, ↓exC_3, ↓lensC_s, ↓lenlC_s, ↓lenlC_m, ↓mnC_i, ↓mxC_i, ↓getN_0, ↓getN_s, ↓allocC_e, ↓nilC_p, ↓nilC_e, ↓nilC_f, ↓faC_p, ↓ldC_m, ↓ldK_some, ↓stC_m, ↓stK_some, ↓boxC_m, ↓aggC_m, ↓shC_shrN, ↓ixpC_p, ↓addSC_s, ↓iter_succ, ↓if_true, ↓if_false, ↓reduceIte, shC_shrN, ixpC_p, addSC_s, icmp_eq, icmp_ne, icmp_lt, icmp_le, icmp_gt, icmp_ge, decide_true, decide_false, Bool.not_true, Bool.not_false, Bool.true_and, Bool.and_true, Bool.false_and, Bool.and_false, wrap_i64, wrap_u64, wrap_u32, wrap_u8, cs_put, cs_add, Heap.next_put, Heap.next_add, cells_int, cells_str, cells_bool, cells_ptr, cells_sl, cells_ms, cells_nilp, cells_func, cells_agg, mk_t, mk_f, putA, putN, cond_true, cond_false, Nat.beq_refl, Option.map_some, List.length_cons, List.length_nil, List.drop_succ_cons, List.drop_zero, List.drop_nil, List.take_succ_cons, List.take_zero, List.take_nil, List.cons_append, List.nil_append, List.append_nil, Nat.zero_add, Nat.add_zero, Int.toNat_natCast, Int.toNat_zero, Int.toNat_one, ne_eq, not_true_eq_false, not_false_eq_true, and_self, and_true, true_and, eq_self, Nat.reduceAdd, Nat.reduceLeDiff, Nat.reduceMul, Nat.reduceSub, Nat.left_eq_add, Nat.add_eq_left, Nat.reduceEqDiff, Nat.one_ne_zero, s67, c1, c2, ↓clC_of (e1 _)]
    rfl
  | true =>
    rw [c3] at e1
    have hno : ¬ (k < 1 ∨ 255 < k ∨ okPlace a = false) := by simp [c1, c2, c3]
    by_cases c4 : 773 < p.length
    · have g4 : (773 : Int) < (p.length : Int) := by omega
      have : wrongM a k p = 2 := by unfold wrongM; rw [if_neg hno, if_pos c4]
      rw [this]
      simp (disch := omega) only [↓cmC_int, ↓cmC_str, ↓biC_add, ↓biC_sub, ↓biC_mul, ↓notC_b, ↓negC_i, ↓cviC_i, ↓cssC_s, ↓cnd_t, ↓cnd_f, ↓pickC_t, ↓pickC_f, ↓gdC_tt, ↓gdC_ff, ↓gdC_tf, ↓gdC_ft, ↓gdC_u, ↓elim_some, ↓exC_0, ↓exC_1, ↓exC_2, ↓exC_3, ↓lensC_s, ↓lenlC_s, ↓lenlC_m, ↓mnC_i, ↓mxC_i, ↓getN_0, ↓getN_s, ↓allocC_e, ↓nilC_p, ↓nilC_e, ↓nilC_f, ↓faC_p, ↓ldC_m, ↓ldK_some, ↓stC_m, ↓stK_some, ↓boxC_m, ↓aggC_m, ↓shC_shrN, ↓ixpC_p, ↓addSC_s, ↓iter_succ, ↓if_true, ↓if_false, ↓reduceIte, shC_shrN, ixpC_p, addSC_s, icmp_eq, icmp_ne, icmp_lt, icmp_le, icmp_gt, icmp_ge, decide_true, decide_false, Bool.not_true, Bool.not_false, Bool.true_and, Bool.and_true, Bool.false_and, Bool.and_false, wrap_i64, wrap_u64, wrap_u32, wrap_u8, cs_put, cs_add, Heap.next_put, Heap.next_add, cells_int, cells_str, cells_bool, cells_ptr, cells_sl, cells_ms, cells_nilp, cells_func, cells_agg, mk_t, mk_f, putA, putN, cond_true, cond_false, Nat.beq_refl, Option.map_some, List.length_cons, List.length_nil, List.drop_succ_cons, List.drop_zero, List.drop_nil, List.take_succ_cons, List.take_zero, List.take_nil, List.cons_append, List.nil_append, List.append_nil, Nat.zero_add, Nat.add_zero, Int.toNat_natCast, Int.toNat_zero, Int.toNat_one, ne_eq, not_true_eq_false, not_false_eq_true, and_self, and_true, true_and, eq_self, Nat.reduceAdd, Nat.reduceLeDiff, Nat.reduceMul, Nat.reduceSub, Nat.left_eq_add, Nat.add_eq_left, Nat.reduceEqDiff, Nat.one_ne_zero, s67, c1, c2, ↓clC_of (e1 _), g4]
      rfl
    · have g4 : ¬ ((773 : Int) < (p.length : Int)) := by omega
      have : wrongM a k p = 0 := by unfold wrongM; rw [if_neg hno, if_neg c4]
      rw [this]
      simp (disch := omega) only [↓cmC_int, ↓cmC_str, ↓biC_add, ↓biC_sub, ↓biC_mul, ↓notC_b, ↓negC_i, ↓cviC_i, ↓cssC_s, ↓cnd_t, ↓cnd_f, ↓pickC_t, ↓pickC_f, ↓gdC_tt, ↓gdC_ff, ↓gdC_tf, ↓gdC_ft, ↓gdC_u, ↓elim_some, ↓exC_0, ↓exC_1, ↓exC_2, ↓exC_3, ↓lensC_s, ↓lenlC_s, ↓lenlC_m, ↓mnC_i, ↓mxC_i, ↓getN_0, ↓getN_s, ↓allocC_e, ↓nilC_p, ↓nilC_e, ↓nilC_f, ↓faC_p, ↓ldC_m, ↓ldK_some, ↓stC_m, ↓stK_some, ↓boxC_m, ↓aggC_m, ↓shC_shrN, ↓ixpC_p, ↓addSC_s, ↓iter_succ, ↓if_true, ↓if_false, ↓reduceIte, shC_shrN, ixpC_p, addSC_s, icmp_eq, icmp_ne, icmp_lt, icmp_le, icmp_gt, icmp_ge, decide_true, decide_false, Bool.not_true, Bool.not_false, Bool.true_and, Bool.and_true, Bool.false_and, Bool.and_false, wrap_i64, wrap_u64, wrap_u32, wrap_u8, cs_put, cs_add, Heap.next_put, Heap.next_add, cells_int, cells_str, cells_bool, cells_ptr, cells_sl, cells_ms, cells_nilp, cells_func, cells_agg, mk_t, mk_f, putA, putN, cond_true, cond_false, Nat.beq_refl, Option.map_some, List.length_cons, List.length_nil, List.drop_succ_cons, List.drop_zero, List.drop_nil, List.take_succ_cons, List.take_zero, List.take_nil, List.cons_append, List.nil_append, List.append_nil, Nat.zero_add, Nat.add_zero, Int.toNat_natCast, Int.toNat_zero, Int.toNat_one, ne_eq, not_true_eq_false, not_false_eq_true, and_self, and_true, true_and, eq_self, Nat.reduceAdd, Nat.reduceLeDiff, Nat.reduceMul, Nat.reduceSub, Nat.left_eq_add, Nat.add_eq_left, Nat.reduceEqDiff, Nat.one_ne_zero, s67, c1, c2, ↓clC_of (e1 _), g4]
      rfl
 end
end Go.AM.T
set_option maxRecDepth 100000
set_option linter.unusedVariables false
set_option linter.unusedSimpArgs false
namespace Go.AM.T
open Go Go.AM
theorem mspC_e {z : Nat} {v : Val} {n : Nat} {K : Val → R} (hn : n ≤ 2147483648) : mspC z v (.int .i64 (n : Int)) (.int .i64 (n : Int)) K = K (.sl .ex z (reps n v)) := by
  have : ((n : Int) == (n : Int) && decide ((0 : Int) ≤ (n : Int)) && decide ((n : Int) ≤ (room : Int))) = true := by
    rw [decide_eq_true (show (0 : Int) ≤ (n : Int) by omega), decide_eq_true (show (n : Int) ≤ (room : Int) by unfold room; omega)]; simp
  simp only [mspC, this, cond_true, Int.toNat_natCast]
theorem bytesOf_reps : ∀ n, bytesOf (reps n (.int .u8 0)) = some (zeros n)
  | 0 => rfl
  | n + 1 => by simp [reps, bytesOf, bytesOf_reps n, zeros, List.replicate_succ]
section
variable {m : Nat} {h : Heap}
theorem t1_rhencode {log gen st base : Nat} (hm : 9 ≤ m) (h1 : log < 65536) (h2 : gen < 4294967296) (h3 : st < 4294967296) (h4 : base < 9223372036854775808) (h : Heap) :
    ∃ h', run t1.get m 66 [hV log gen st base] h = some (.str (encH log gen st base), h') := by
  refine ⟨h.add (.cells [.int .i64 log, .int .u32 gen, .int .u32 st, .int .i64 base]), ?_⟩
  rw [t1_r66 (by omega)]
  have z1 : ∀ K, mspC 1 (.int .u8 0) (.int .i64 8) (.int .i64 8) K = K (.sl .ex 1 (reps 8 (.int .u8 0))) := fun K => mspC_e (n := 8) (by decide)
  have z2 : ∀ G K, cvsC (.sl .ex 1 (reps 8 (.int .u8 0))) G K = K (.str (zeros 8)) := fun G K => cvsC_sl (bytesOf_reps 8)
  have e1 : ∀ G, run t1.get (m - 1) 116 [.int .u64 (log : Int), .int .i64 2] G = some (.str (be 2 log), G) := fun G => by rw [t1_r116 (by omega)]; exact p_rfixed (n := 2) (by omega) (by omega)
  have e2 : ∀ G, run t1.get (m - 1) 116 [.int .u64 (gen : Int), .int .i64 4] G = some (.str (be 4 gen), G) := fun G => by rw [t1_r116 (by omega)]; exact p_rfixed (n := 4) (by omega) (by omega)
  have e3 : ∀ G, run t1.get (m - 1) 116 [.int .u64 (st : Int), .int .i64 4] G = some (.str (be 4 st), G) := fun G => by rw [t1_r116 (by omega)]; exact p_rfixed (n := 4) (by omega) (by omega)
  have e4 : ∀ G, run t1.get (m - 1) 116 [.int .u64 (base : Int), .int .i64 8] G = some (.str (be 8 base), G) := fun G => by rw [t1_r116 (by omega)]; exact p_rfixed (n := 8) (by omega) (by omega)
  have e5 : ∀ G, run t1.get (m - 1) 117 [.int .u32 0, .str (hdrB log gen st base)] G = some (.int .u32 (crc 0 (hdrB log gen st base) : Nat), G) := fun G => by rw [t1_r117 (by omega)]; exact p_crc (b := 0) (by decide) (by rw [hdrB_len]; decide)
  have hc := crc_lt 0 (hdrB log gen st base)
  have e6 : ∀ G, run t1.get (m - 1) 116 [.int .u64 ((crc 0 (hdrB log gen st base) : Nat) : Int), .int .i64 4] G = some (.str (be 4 (crc 0 (hdrB log gen st base))), G) := fun G => by rw [t1_r116 (by omega)]; exact p_rfixed (n := 4) (by omega) (by omega)
  have a1 : ∀ K, addSC (.str [87, 83]) (.str (be 2 log)) K = K (.str ([87, 83] ++ be 2 log)) := fun K => addSC_s _ _ (by simp [be_len])
  have a2 : ∀ K, addSC (.str ([87, 83] ++ be 2 log)) (.str (be 4 gen)) K = K (.str ([87, 83] ++ be 2 log ++ be 4 gen)) := fun K => addSC_s _ _ (by simp [be_len])
  have a3 : ∀ K, addSC (.str ([87, 83] ++ be 2 log ++ be 4 gen)) (.str (be 4 st)) K = K (.str ([87, 83] ++ be 2 log ++ be 4 gen ++ be 4 st)) := fun K => addSC_s _ _ (by simp [be_len])
  have a4 : ∀ K, addSC (.str ([87, 83] ++ be 2 log ++ be 4 gen ++ be 4 st)) (.str (be 8 base)) K = K (.str ([87, 83] ++ be 2 log ++ be 4 gen ++ be 4 st ++ be 8 base)) := fun K => addSC_s _ _ (by simp [be_len])
  have a5 : ∀ K, addSC (.str ([87, 83] ++ be 2 log ++ be 4 gen ++ be 4 st ++ be 8 base)) (.str (zeros 8)) K = K (.str (hdrB log gen st base)) := fun K => addSC_s _ _ (by simp [be_len, zeros])
  have a6 : ∀ K, addSC (.str (hdrB log gen st base)) (.str (be 4 (crc 0 (hdrB log gen st base)))) K = K (.str (encH log gen st base)) := fun K => addSC_s _ _ (by rw [hdrB_len, be_len]; decide)
  generalize hcc : crc 0 (hdrB log gen st base) = cc at *
  simp (disch := omega) only [↓cmC_int, ↓cmC_str, ↓biC_add, ↓biC_sub, ↓biC_mul, ↓notC_b, ↓negC_i, ↓cviC_i, ↓cssC_s, ↓cnd_t, ↓cnd_f, ↓pickC_t, ↓pickC_f, ↓gdC_tt, ↓gdC_ff, ↓gdC_tf, ↓gdC_ft, ↓gdC_u, ↓elim_some, ↓exC_0, ↓exC_1, ↓exC_2, ↓exC_3, ↓lensC_s, ↓lenlC_s, ↓lenlC_m, ↓mnC_i, ↓mxC_i, ↓getN_0, ↓getN_s, ↓allocC_e, ↓nilC_p, ↓nilC_e, ↓nilC_f, ↓faC_p, ↓ldC_m, ↓ldK_some, ↓stC_m, ↓stK_some, ↓boxC_m, ↓aggC_m, ↓shC_shrN, ↓ixpC_p, ↓addSC_s, ↓iter_succ, ↓if_true, ↓if_false, ↓reduceIte, shC_shrN, ixpC_p, addSC_s, icmp_eq, icmp_ne, icmp_lt, icmp_le, icmp_gt, icmp_ge, decide_true, decide_false, Bool.not_true, Bool.not_false, Bool.true_and, Bool.and_true, Bool.false_and, Bool.and_false, wrap_i64, wrap_u64, wrap_u32, wrap_u8, cs_put, cs_add, Heap.next_put, Heap.next_add, cells_int, cells_str, cells_bool, cells_ptr, cells_sl, cells_ms, cells_nilp, cells_func, cells_agg, mk_t, mk_f, putA, putN, cond_true, cond_false, Nat.beq_refl, Option.map_some, List.length_cons, List.length_nil, List.drop_succ_cons, List.drop_zero, List.drop_nil, List.take_succ_cons, List.take_zero, List.take_nil, List.cons_append, List.nil_append, List.append_nil, Nat.zero_add, Nat.add_zero, Int.toNat_natCast, Int.toNat_zero, Int.toNat_one, ne_eq, not_true_eq_false, not_false_eq_true, and_self, and_true, true_and, eq_self, Nat.reduceAdd, Nat.reduceLeDiff, Nat.reduceMul, Nat.reduceSub, Nat.left_eq_add, Nat.add_eq_left, Nat.reduceEqDiff, Nat.one_ne_zero, s66, hV, ↓z1, ↓z2, ↓clC_of (e1 _), ↓clC_of (e2 _), ↓clC_of (e3 _), ↓clC_of (e4 _), ↓a1, ↓a2, ↓a3, ↓a4, ↓a5, ↓clC_of (e5 _), ↓clC_of (e6 _), ↓a6, eqv_int, eqv_str, ↓cond_true]
theorem t1_may {log gen st base : Int} (hm : 2 ≤ m) (h : Heap) :
    ∃ h', run t1.get m 12 [hV log gen st base] h = some (.bool (mayH log base), h') := by
  refine ⟨h.add (.cells [.int .i64 log, .int .u32 gen, .int .u32 st, .int .i64 base]), ?_⟩
  rw [t1_r12 (by omega)]
  unfold mayH
  by_cases c1 : 1 ≤ log
  · by_cases c2 : log ≤ 65535
    · by_cases c3 : 0 ≤ base
      · by_cases c4 : base ≤ 1099511627776
        · simp (disch := omega) only [↓cmC_int, ↓cmC_str, ↓biC_add, ↓biC_sub, ↓biC_mul, ↓notC_b, ↓negC_i, ↓cviC_i, ↓cssC_s, ↓cnd_t, ↓cnd_f, ↓pickC_t, ↓pickC_f, ↓gdC_tt, ↓gdC_ff, ↓gdC_tf, ↓gdC_ft, ↓gdC_u, ↓elim_some, ↓exC_0, ↓exC_1, ↓exC_2, ↓exC_3, ↓lensC_s, ↓lenlC_s, ↓lenlC_m, ↓mnC_i, ↓mxC_i, ↓getN_0, ↓getN_s, ↓allocC_e, ↓nilC_p, ↓nilC_e, ↓nilC_f, ↓faC_p, ↓ldC_m, ↓ldK_some, ↓stC_m, ↓stK_some, ↓boxC_m, ↓aggC_m, ↓shC_shrN, ↓ixpC_p, ↓addSC_s, ↓iter_succ, ↓if_true, ↓if_false, ↓reduceIte, shC_shrN, ixpC_p, addSC_s, icmp_eq, icmp_ne, icmp_lt, icmp_le, icmp_gt, icmp_ge, decide_true, decide_false, Bool.not_true, Bool.not_false, Bool.true_and, Bool.and_true, Bool.false_and, Bool.and_false, wrap_i64, wrap_u64, wrap_u32, wrap_u8, cs_put, cs_add, Heap.next_put, Heap.next_add, cells_int, cells_str, cells_bool, cells_ptr, cells_sl, cells_ms, cells_nilp, cells_func, cells_agg, mk_t, mk_f, putA, putN, cond_true, cond_false, Nat.beq_refl, Option.map_some, List.length_cons, List.length_nil, List.drop_succ_cons, List.drop_zero, List.drop_nil, List.take_succ_cons, List.take_zero, List.take_nil, List.cons_append, List.nil_append, List.append_nil, Nat.zero_add, Nat.add_zero, Int.toNat_natCast, Int.toNat_zero, Int.toNat_one, ne_eq, not_true_eq_false, not_false_eq_true, and_self, and_true, true_and, eq_self, Nat.reduceAdd, Nat.reduceLeDiff, Nat.reduceMul, Nat.reduceSub, Nat.left_eq_add, Nat.add_eq_left, Nat.reduceEqDiff, Nat.one_ne_zero, s12, hV, c1, c2, c3, c4]
        · simp (disch := omega) only [↓cmC_int, ↓cmC_str, ↓biC_add, ↓biC_sub, ↓biC_mul, ↓notC_b, ↓negC_i, ↓cviC_i, ↓cssC_s, ↓cnd_t, ↓cnd_f, ↓pickC_t, ↓pickC_f, ↓gdC_tt, ↓gdC_ff, ↓gdC_tf, ↓gdC_ft, ↓gdC_u, ↓elim_some, ↓exC_0, ↓exC_1, ↓exC_2, ↓exC_3, ↓lensC_s, ↓lenlC_s, ↓lenlC_m, ↓mnC_i, ↓mxC_i, ↓getN_0, ↓getN_s, ↓allocC_e, ↓nilC_p, ↓nilC_e, ↓nilC_f, ↓faC_p, ↓ldC_m, ↓ldK_some, ↓stC_m, ↓stK_some, ↓boxC_m, ↓aggC_m, ↓shC_shrN, ↓ixpC_p, ↓addSC_s, ↓iter_succ, ↓if_true, ↓if_false, ↓reduceIte, shC_shrN, ixpC_p, addSC_s, icmp_eq, icmp_ne, icmp_lt, icmp_le, icmp_gt, icmp_ge, decide_true, decide_false, Bool.not_true, Bool.not_false, Bool.true_and, Bool.and_true, Bool.false_and, Bool.and_false, wrap_i64, wrap_u64, wrap_u32, wrap_u8, cs_put, cs_add, Heap.next_put, Heap.next_add, cells_int, cells_str, cells_bool, cells_ptr, cells_sl, cells_ms, cells_nilp, cells_func, cells_agg, mk_t, mk_f, putA, putN, cond_true, cond_false, Nat.beq_refl, Option.map_some, List.length_cons, List.length_nil, List.drop_succ_cons, List.drop_zero, List.drop_nil, List.take_succ_cons, List.take_zero, List.take_nil, List.cons_append, List.nil_append, List.append_nil, Nat.zero_add, Nat.add_zero, Int.toNat_natCast, Int.toNat_zero, Int.toNat_one, ne_eq, not_true_eq_false, not_false_eq_true, and_self, and_true, true_and, eq_self, Nat.reduceAdd, Nat.reduceLeDiff, Nat.reduceMul, Nat.reduceSub, Nat.left_eq_add, Nat.add_eq_left, Nat.reduceEqDiff, Nat.one_ne_zero, s12, hV, c1, c2, c3, c4]
      · simp (disch := omega) only [↓cmC_int, ↓cmC_str, ↓biC_add, ↓biC_sub, ↓biC_mul, ↓notC_b, ↓negC_i, ↓cviC_i, ↓cssC_s, ↓cnd_t, ↓cnd_f, ↓pickC_t, ↓pickC_f, ↓gdC_tt, ↓gdC_ff, ↓gdC_tf, ↓gdC_ft, ↓gdC_u, ↓elim_some, ↓exC_0, ↓exC_1, ↓exC_2, ↓exC_3, ↓lensC_s, ↓lenlC_s, ↓lenlC_m, ↓mnC_i, ↓mxC_i, ↓getN_0, ↓getN_s, ↓allocC_e, ↓nilC_p, ↓nilC_e, ↓nilC_f, ↓faC_p, ↓ldC_m, ↓ldK_some, ↓stC_m, ↓stK_some, ↓boxC_m, ↓aggC_m, ↓shC_shrN, ↓ixpC_p, ↓addSC_s, ↓iter_succ, ↓if_true, ↓if_false, ↓reduceIte, shC_shrN, ixpC_p, addSC_s, icmp_eq, icmp_ne, icmp_lt, icmp_le, icmp_gt, icmp_ge, decide_true, decide_false, Bool.not_true, Bool.not_false, Bool.true_and, Bool.and_true, Bool.false_and, Bool.and_false, wrap_i64, wrap_u64, wrap_u32, wrap_u8, cs_put, cs_add, Heap.next_put, Heap.next_add, cells_int, cells_str, cells_bool, cells_ptr, cells_sl, cells_ms, cells_nilp, cells_func, cells_agg, mk_t, mk_f, putA, putN, cond_true, cond_false, Nat.beq_refl, Option.map_some, List.length_cons, List.length_nil, List.drop_succ_cons, List.drop_zero, List.drop_nil, List.take_succ_cons, List.take_zero, List.take_nil, List.cons_append, List.nil_append, List.append_nil, Nat.zero_add, Nat.add_zero, Int.toNat_natCast, Int.toNat_zero, Int.toNat_one, ne_eq, not_true_eq_false, not_false_eq_true, and_self, and_true, true_and, eq_self, Nat.reduceAdd, Nat.reduceLeDiff, Nat.reduceMul, Nat.reduceSub, Nat.left_eq_add, Nat.add_eq_left, Nat.reduceEqDiff, Nat.one_ne_zero, s12, hV, c1, c2, c3]
    · simp (disch := omega) only [↓cmC_int, ↓cmC_str, ↓biC_add, ↓biC_sub, ↓biC_mul, ↓notC_b, ↓negC_i, ↓cviC_i, ↓cssC_s, ↓cnd_t, ↓cnd_f, ↓pickC_t, ↓pickC_f, ↓gdC_tt, ↓gdC_ff, ↓gdC_tf, ↓gdC_ft, ↓gdC_u, ↓elim_some, ↓exC_0, ↓exC_1, ↓exC_2, ↓exC_3, ↓lensC_s, ↓lenlC_s, ↓lenlC_m, ↓mnC_i, ↓mxC_i, ↓getN_0, ↓getN_s, ↓allocC_e, ↓nilC_p, ↓nilC_e, ↓nilC_f, ↓faC_p, ↓ldC_m, ↓ldK_some, ↓stC_m, ↓stK_some, ↓boxC_m, ↓aggC_m, ↓shC_shrN, ↓ixpC_p, ↓addSC_s, ↓iter_succ, ↓if_true, ↓if_false, ↓reduceIte, shC_shrN, ixpC_p, addSC_s, icmp_eq, icmp_ne, icmp_lt, icmp_le, icmp_gt, icmp_ge, decide_true, decide_false, Bool.not_true, Bool.not_false, Bool.true_and, Bool.and_true, Bool.false_and, Bool.and_false, wrap_i64, wrap_u64, wrap_u32, wrap_u8, cs_put, cs_add, Heap.next_put, Heap.next_add, cells_int, cells_str, cells_bool, cells_ptr, cells_sl, cells_ms, cells_nilp, cells_func, cells_agg, mk_t, mk_f, putA, putN, cond_true, cond_false, Nat.beq_refl, Option.map_some, List.length_cons, List.length_nil, List.drop_succ_cons, List.drop_zero, List.drop_nil, List.take_succ_cons, List.take_zero, List.take_nil, List.cons_append, List.nil_append, List.append_nil, Nat.zero_add, Nat.add_zero, Int.toNat_natCast, Int.toNat_zero, Int.toNat_one, ne_eq, not_true_eq_false, not_false_eq_true, and_self, and_true, true_and, eq_self, Nat.reduceAdd, Nat.reduceLeDiff, Nat.reduceMul, Nat.reduceSub, Nat.left_eq_add, Nat.add_eq_left, Nat.reduceEqDiff, Nat.one_ne_zero, s12, hV, c1, c2]
  · simp (disch := omega) only [↓cmC_int, ↓cmC_str, ↓biC_add, ↓biC_sub, ↓biC_mul, ↓notC_b, ↓negC_i, ↓cviC_i, ↓cssC_s, ↓cnd_t, ↓cnd_f, ↓pickC_t, ↓pickC_f, ↓gdC_tt, ↓gdC_ff, ↓gdC_tf, ↓gdC_ft, ↓gdC_u, ↓elim_some, ↓exC_0, ↓exC_1, ↓exC_2, ↓exC_3, ↓lensC_s, ↓lenlC_s, ↓lenlC_m, ↓mnC_i, ↓mxC_i, ↓getN_0, ↓getN_s, ↓allocC_e, ↓nilC_p, ↓nilC_e, ↓nilC_f, ↓faC_p, ↓ldC_m, ↓ldK_some, ↓stC_m, ↓stK_some, ↓boxC_m, ↓aggC_m, ↓shC_shrN, ↓ixpC_p, ↓addSC_s, ↓iter_succ, ↓if_true, ↓if_false, ↓reduceIte, shC_shrN, ixpC_p, addSC_s, icmp_eq, icmp_ne, icmp_lt, icmp_le, icmp_gt, icmp_ge, decide_true, decide_false, Bool.not_true, Bool.not_false, Bool.true_and, Bool.and_true, Bool.false_and, Bool.and_false, wrap_i64, wrap_u64, wrap_u32, wrap_u8, cs_put, cs_add, Heap.next_put, Heap.next_add, cells_int, cells_str, cells_bool, cells_ptr, cells_sl, cells_ms, cells_nilp, cells_func, cells_agg, mk_t, mk_f, putA, putN, cond_true, cond_false, Nat.beq_refl, Option.map_some, List.length_cons, List.length_nil, List.drop_succ_cons, List.drop_zero, List.drop_nil, List.take_succ_cons, List.take_zero, List.take_nil, List.cons_append, List.nil_append, List.append_nil, Nat.zero_add, Nat.add_zero, Int.toNat_natCast, Int.toNat_zero, Int.toNat_one, ne_eq, not_true_eq_false, not_false_eq_true, and_self, and_true, true_and, eq_self, Nat.reduceAdd, Nat.reduceLeDiff, Nat.reduceMul, Nat.reduceSub, Nat.left_eq_add, Nat.add_eq_left, Nat.reduceEqDiff, Nat.one_ne_zero, s12, hV, c1]
theorem loop_rpieces (call : Call) (q : Nat) {u : Own} {xs : List (List UInt8)} (hx : xs.length < 1000) : ∀ (k i : Nat), i + k = xs.length → ∀ (m : Nat), k < m → ∀ (w : Own) (acc : List (List UInt8)) (h : Heap), Fit h → Gr h w acc.length → acc.length ≤ i + 1 →
    ∃ w' h', iter m (fun again0 ys h => s65_l0 call q again0 (.sl u 1 (xs.map Val.str)) (.int .i64 xs.length) (getN ys 0) (getN ys 1) h) [.sl w 1 (acc.map Val.str), .int .i64 i] h = some (.sl w' 1 ((acc ++ xs.drop i).map Val.str), h') ∧ Fit h' ∧ (k = 0 → w' = w) ∧ (0 < k → ∃ t, w' = .tok t)
  | 0, i, hi, m, hm, w, acc, h, hf, hg, ha => by
    obtain ⟨m, rfl⟩ : ∃ q, m = q + 1 := ⟨m - 1, by omega⟩
    have : i = xs.length := by omega
    subst this
    refine ⟨w, h, ?_, hf, fun _ => rfl, fun h => absurd h (by decide)⟩
    have g1 : icmp .lt (xs.length : Int) (xs.length : Int) = false := decide_eq_false (by omega)
    rw [iter_succ]
    simp only [getN_0, getN_s, s65_l0, cmC_int, g1, cnd_f, List.drop_length, List.append_nil]
  | k + 1, i, hi, m, hm, w, acc, h, hf, hg, ha => by
    obtain ⟨m, rfl⟩ : ∃ q, m = q + 1 := ⟨m - 1, by omega⟩
    have hil : i < xs.length := by omega
    obtain ⟨w1, h1, ea, hf1, hg1, -, ht1⟩ := app_one' (z := 1) (g := false) (u := .ex) (x := .str xs[i]) hf (l := acc.map Val.str) (by simpa using hg) (by simp; omega)
    obtain ⟨w', h', ih, hf', k1, k2⟩ := loop_rpieces call q (u := u) hx k (i + 1) (by omega) m (by omega) w1 (acc ++ [xs[i]]) h1 hf1 (by simpa using hg1) (by simp; omega)
    refine ⟨w', h', ?_, hf', fun h => absurd h (by omega), fun _ => ?_⟩
    · rw [iter_succ]
      generalize iter m (fun again0 ys h => s65_l0 call q again0 (.sl u 1 (xs.map Val.str)) (.int .i64 xs.length) (getN ys 0) (getN ys 1) h) = G at ih ⊢
      have g1 : icmp .lt (i : Int) (xs.length : Int) = true := decide_eq_true (by omega)
      have e1 : ∀ K, ixsC 1 (.sl u 1 (xs.map Val.str)) (.int .i64 (i : Int)) K = K (.ep [.str xs[i]]) := fun K => ixsC_sl (v := .str xs[i]) (by rw [List.getElem?_map, List.getElem?_eq_getElem hil]; rfl)
      have e2 : ∀ K, ldC false 1 (.ep [.str xs[i]]) h K = K (.str xs[i]) := fun K => rfl
      have e3 : ∀ K, bslC 1 [.str xs[i]] K = K (.sl .ex 1 [.str xs[i]]) := fun K => rfl
      have ih' : G [.sl w1 1 (acc.map Val.str ++ [.str xs[i]]), .int .i64 ((i + 1 : Nat) : Int)] h1 = some (.sl w' 1 ((acc ++ xs.drop i).map Val.str), h') := by
        rw [drop_cons hil]; simpa using ih
      simp only [getN_0, getN_s, s65_l0, cmC_int, g1, cnd_t, e1, e2, e3, ea, biC_add, i64s (show i < 9223372036854775807 by omega), ih']
    · cases k with
      | zero => rw [k1 rfl]; exact ht1
      | succ k => exact k2 (by omega)
theorem pieces_cons {s : List UInt8} (hs : 52 < s.length) : pieces s = s.take 52 :: pieces (s.drop 52) := by
  unfold pieces
  have : many s.length = many (s.drop 52).length + 1 := by unfold many; simp; omega
  rw [this, pcs, pad, Nat.min_eq_right (by omega)]
  simp [zeros]
theorem t1_rpieces : ∀ (f : Nat) {m : Nat} {s : List UInt8}, s.length ≤ f → f < 30000 → many s.length + f + 20 ≤ m → ∀ (h : Heap), Fit h →
    ∃ w h', run t1.get m 65 [.str s] h = some (.sl w 1 ((pieces s).map Val.str), h') ∧ Fit h' ∧ (s = [] → w = .nl) ∧ (s ≠ [] → s.length ≤ 52 → w = .ex) ∧ (52 < s.length → ∃ t, w = .tok t)
  | 0, m, s, hs, hf0, hm, h, hf => by
    have : s = [] := List.eq_nil_of_length_eq_zero (by omega)
    subst this
    refine ⟨.nl, h, ?_, hf, fun _ => rfl, fun h => absurd rfl h, fun h => by simp at h⟩
    rw [t1_r65 (by omega)]
    rfl
  | f + 1, m, s, hs, hf0, hm, h, hf => by
    by_cases h0 : s = []
    · subst h0
      refine ⟨.nl, h, ?_, hf, fun _ => rfl, fun h => absurd rfl h, fun h => by simp at h⟩
      rw [t1_r65 (by omega)]
      rfl
    have c0 : scmp .eq s [] = false := by rw [seq_]; exact decide_eq_false h0
    by_cases h52 : s.length ≤ 52
    · have g1 : icmp .le (s.length : Int) 52 = true := decide_eq_true (by omega)
      refine ⟨.ex, h, ?_, hf, fun e => absurd e h0, fun _ _ => rfl, fun h => by omega⟩
      rw [t1_r65 (by omega)]
      have e1 : IntKind.i64.wrap (52 - (s.length : Int)) = ((52 - s.length : Nat) : Int) := by rw [wrap_i64 (by omega) (by omega)]; omega
      have z1 : ∀ K, mspC 1 (.int .u8 0) (.int .i64 ((52 - s.length : Nat) : Int)) (.int .i64 ((52 - s.length : Nat) : Int)) K = K (.sl .ex 1 (reps (52 - s.length) (.int .u8 0))) := fun K => mspC_e (by omega)
      have z2 : ∀ K, cvsC (.sl .ex 1 (reps (52 - s.length) (.int .u8 0))) h K = K (.str (zeros (52 - s.length))) := fun K => cvsC_sl (bytesOf_reps _)
      have a1 : ∀ K, addSC (.str s) (.str (zeros (52 - s.length))) K = K (.str (s ++ zeros (52 - s.length))) := fun K => addSC_s _ _ (by simp [zeros]; omega)
      have b1 : ∀ K, bslC 1 [.str (s ++ zeros (52 - s.length))] K = K (.sl .ex 1 [.str (s ++ zeros (52 - s.length))]) := fun K => rfl
      have hp : pieces s = [s ++ zeros (52 - s.length)] := by
        have hl : 0 < s.length := List.length_pos_iff.2 h0
        have : many s.length = 1 := by unfold many; omega
        rw [pieces, this, pcs, pcs, pad, Nat.min_eq_left h52, List.take_of_length_le h52]
      rw [hp]
      simp only [s65, cmC_str, c0, cnd_f, lensC_s, cmC_int, g1, cnd_t, biC_sub, e1, z1, z2, a1, b1]
      rfl
    · have g1 : icmp .le (s.length : Int) 52 = false := decide_eq_false (by omega)
      have hml : many s.length = many (s.drop 52).length + 1 := by unfold many; simp; omega
      obtain ⟨u, h1, er, hf1, -, -, -⟩ := t1_rpieces f (m := m - 1) (s := s.drop 52) (by simp; omega) (by omega) (by omega) h hf
      have hpl : (pieces (s.drop 52)).length < 1000 := by
        rw [pieces, pcs_len]; unfold many; simp; omega
      obtain ⟨w', h', el, hf', -, k2⟩ := loop_rpieces (run t1.get (m - 1)) (m - 1) (u := u) hpl (pieces (s.drop 52)).length 0 (by omega) (m - 1) (by rw [pieces, pcs_len]; omega) .ex [s.take 52] h1 hf1 trivial (by simp)
      refine ⟨w', h', ?_, hf', fun e => absurd e h0, fun _ h => by omega, fun _ => k2 (by rw [pieces, pcs_len]; unfold many; simp; omega)⟩
      rw [t1_r65 (by omega)]
      have s1 : ∀ K, slsC (.str s) none (some (.int .i64 52)) K = K (.str (s.take 52)) := fun K => slsC_none_some (by decide) (by omega)
      have s2 : ∀ K, slsC (.str s) (some (.int .i64 52)) none K = K (.str (s.drop 52)) := fun K => slsC_some_none (by decide) (by omega)
      have b1 : ∀ K, bslC 1 [.str (s.take 52)] K = K (.sl .ex 1 [.str (s.take 52)]) := fun K => rfl
      simp only [s65, cmC_str, c0, cnd_f, lensC_s, cmC_int, g1, s1, s2, b1, clC_of er, lenlC_s, List.length_map]
      rw [pieces_cons (s := s) (by omega)]
      exact el
 end
end Go.AM.T
set_option maxRecDepth 100000
set_option linter.unusedVariables false
set_option linter.unusedSimpArgs false
namespace Go.AM.T
open Go Go.AM
abbrev Fr := Int × List UInt8
def frV (f : Fr) : Val := .agg [.int .i64 f.1, .str f.2]
theorem eqks_fr (x y : Fr) : eqks [.i, .s] [.int .i64 x.1, .str x.2] [.int .i64 y.1, .str y.2] = some (decide (x = y)) := by
  have h : decide (x = y) = (x.1 == y.1 && eqB x.2 y.2) := by
    rw [eqB_d, Bool.eq_iff_iff]
    simp [Prod.ext_iff]
  rw [h]
  simp [eqks, eqk]
theorem cea_fr (ne : Bool) (x y : Fr) (K : Val → R) : ceaC [.i, .s] ne (frV x) (frV y) K = K (.bool (decide (x = y) != ne)) := by
  simp only [ceaC, frV, eqks_fr]
section
variable {m : Nat} {h : Heap}
theorem loop_same (call : Call) (q : Nat) {u w : Own} {xs ys : List Fr} (hl : xs.length = ys.length) (hx : xs.length < 100000) : ∀ (k i : Nat), i + k = xs.length → ∀ (m : Nat), k < m → ∀ (h : Heap),
    ∃ h', iter m (fun again0 zs h => s25_l0 call q again0 (.sl w 2 (ys.map frV)) (.sl u 2 (xs.map frV)) (.int .i64 xs.length) (getN zs 0) h) [.int .i64 i] h = some (.bool (decide (xs.drop i = ys.drop i)), h')
  | 0, i, hi, m, hm, h => by
    obtain ⟨m, rfl⟩ : ∃ q, m = q + 1 := ⟨m - 1, by omega⟩
    have : i = xs.length := by omega
    subst this
    refine ⟨h, ?_⟩
    have g1 : icmp .lt (xs.length : Int) (xs.length : Int) = false := decide_eq_false (by omega)
    rw [iter_succ]
    have : xs.drop xs.length = ys.drop xs.length := by rw [List.drop_length, hl, List.drop_length]
    simp only [getN_0, s25_l0, cmC_int, g1, cnd_f, decide_eq_true this]
  | k + 1, i, hi, m, hm, h => by
    obtain ⟨m, rfl⟩ : ∃ q, m = q + 1 := ⟨m - 1, by omega⟩
    have hil : i < xs.length := by omega
    have hiy : i < ys.length := by omega
    have g1 : icmp .lt (i : Int) (xs.length : Int) = true := decide_eq_true (by omega)
    let H1 := (h.add (.cells [.int .i64 0, .str []])).put h.next (.cells [.int .i64 xs[i].1, .str xs[i].2])
    obtain ⟨h', ih⟩ := loop_same call q (u := u) (w := w) hl hx k (i + 1) (by omega) m (by omega) H1
    have e1 : ∀ K, ixsC 2 (.sl u 2 (xs.map frV)) (.int .i64 (i : Int)) K = K (.ep [.int .i64 xs[i].1, .str xs[i].2]) := fun K => ixsC_sl (v := frV xs[i]) (by rw [List.getElem?_map, List.getElem?_eq_getElem hil]; rfl)
    have e2 : ∀ G K, ldC true 2 (.ep [.int .i64 xs[i].1, .str xs[i].2]) G K = K (frV xs[i]) := fun G K => rfl
    have e3 : ∀ K, stC 2 (.ptr h.next 0) (frV xs[i]) (h.add (.cells [.int .i64 0, .str []])) K = K H1 := fun K => (stC_p (n := 2) (blk_add_same _) rfl (by simp)).trans rfl
    have e4 : ∀ K, ldC true 2 (.ptr h.next 0) H1 K = K (frV xs[i]) := fun K => by rw [ldC_p (blk_put_same _ _) (by simp)]; rfl
    have e5 : ∀ K, ixsC 2 (.sl w 2 (ys.map frV)) (.int .i64 (i : Int)) K = K (.ep [.int .i64 ys[i].1, .str ys[i].2]) := fun K => ixsC_sl (v := frV ys[i]) (by rw [List.getElem?_map, List.getElem?_eq_getElem hiy]; rfl)
    have e6 : ∀ G K, ldC true 2 (.ep [.int .i64 ys[i].1, .str ys[i].2]) G K = K (frV ys[i]) := fun G K => rfl
    rw [drop_cons hil, drop_cons hiy]
    by_cases hxy : xs[i] = ys[i]
    · refine ⟨h', ?_⟩
      rw [iter_succ]
      generalize iter m (fun again0 zs h => s25_l0 call q again0 (.sl w 2 (ys.map frV)) (.sl u 2 (xs.map frV)) (.int .i64 xs.length) (getN zs 0) h) = G at ih ⊢
      have e7 : (xs[i] :: xs.drop (i + 1) = ys[i] :: ys.drop (i + 1)) ↔ (xs.drop (i + 1) = ys.drop (i + 1)) := ⟨fun h => (List.cons.inj h).2, fun h => by rw [hxy, h]⟩
      simp only [getN_0, s25_l0, cmC_int, g1, cnd_t, e1, e2, allocC_e, e3, e4, e5, e6, cea_fr, decide_eq_true hxy, bne_self_eq_false, cnd_f, biC_add, i64s (show i < 9223372036854775807 by omega), ih, e7]
    · refine ⟨H1, ?_⟩
      rw [iter_succ]
      generalize iter m (fun again0 zs h => s25_l0 call q again0 (.sl w 2 (ys.map frV)) (.sl u 2 (xs.map frV)) (.int .i64 xs.length) (getN zs 0) h) = G at ih ⊢
      have e7 : ¬ (xs[i] :: xs.drop (i + 1) = ys[i] :: ys.drop (i + 1)) := fun h => hxy (List.cons.inj h).1
      simp only [getN_0, s25_l0, cmC_int, g1, cnd_t, e1, e2, allocC_e, e3, e4, e5, e6, cea_fr, decide_eq_false hxy, decide_eq_false e7, show (false != true) = true from rfl]
theorem t1_same {u w : Own} {xs ys : List Fr} (hm : xs.length + 5 ≤ m) (hx : xs.length < 100000) (hy : ys.length < 100000) (h : Heap) :
    ∃ h', run t1.get m 25 [.sl u 2 (xs.map frV), .sl w 2 (ys.map frV)] h = some (.bool (decide (xs = ys)), h') := by
  by_cases hl : xs.length = ys.length
  · obtain ⟨h', e⟩ := loop_same (run t1.get (m - 1)) (m - 1) (u := u) (w := w) hl hx xs.length 0 (by omega) (m - 1) (by omega) h
    refine ⟨h', ?_⟩
    rw [t1_r25 (by omega)]
    have g1 : icmp .ne (xs.length : Int) (ys.length : Int) = false := by rw [icmp_ne]; exact decide_eq_false (by omega)
    simp only [s25, lenlC_s, List.length_map, cmC_int, g1, cnd_f]
    exact e
  · refine ⟨h, ?_⟩
    rw [t1_r25 (by omega)]
    have g1 : icmp .ne (xs.length : Int) (ys.length : Int) = true := by rw [icmp_ne]; exact decide_eq_true (by omega)
    have : xs ≠ ys := fun e => hl (by rw [e])
    simp only [s25, lenlC_s, List.length_map, cmC_int, g1, cnd_t, decide_eq_false this]
theorem told_or (a b : Nat) (hb : b < 256) : (256 * a) ||| b = 256 * a + b := (Nat.two_pow_add_eq_or_of_lt (i := 8) hb a).symm
theorem t1_told {s : List UInt8} (hm : 4 ≤ m) (hs : 2 ≤ s.length) (h : Heap) :
    run t1.get m 126 [.str s] h = some (.int .i64 (many (rd 0 (s.take 2) + 6) : Nat), h) := by
  rw [t1_r126 (by omega)]
  have b0 := s[0].toNat_lt
  have b1 := s[1].toNat_lt
  have e0 : ∀ K, ixtC (.str s) (.int .i64 0) K = K (.int .u8 (s[0].toNat : Int)) := fun K => ixtC_s (a := 0) (by decide) (show (0 : Int).toNat < s.length by simp only [Int.toNat_zero]; omega)
  have e1 : ∀ K, ixtC (.str s) (.int .i64 1) K = K (.int .u8 (s[1].toNat : Int)) := fun K => ixtC_s (a := 1) (by decide) (show (1 : Int).toNat < s.length by simp only [Int.toNat_one]; omega)
  have w0 : IntKind.i64.wrap (s[0].toNat : Int) = (s[0].toNat : Int) := wrap_i64 (by omega) (by omega)
  have w1 : IntKind.i64.wrap (s[1].toNat : Int) = (s[1].toNat : Int) := wrap_i64 (by omega) (by omega)
  have e2 : ∀ K, shC .shl (.int .i64 (s[0].toNat : Int)) (.int .u64 8) K = K (.int .i64 (256 * s[0].toNat : Nat)) := fun K => by
    rw [shC_shl (by decide)]
    have : min (8 : Int).toNat IntKind.i64.bits = 8 := rfl
    rw [this, wrap_i64 (by omega) (by omega)]
    congr 2
    omega
  have e3 : ∀ K, biC .or (.int .i64 ((256 * s[0].toNat : Nat) : Int)) (.int .i64 (s[1].toNat : Int)) K = K (.int .i64 (256 * s[0].toNat + s[1].toNat : Nat)) := fun K => by
    rw [biC_or, ofInt_nat, ofInt_nat]
    have : (BitVec.ofNat IntKind.i64.bits (256 * s[0].toNat) ||| BitVec.ofNat IntKind.i64.bits s[1].toNat).toNat = 256 * s[0].toNat + s[1].toNat := by
      rw [BitVec.toNat_or, BitVec.toNat_ofNat, BitVec.toNat_ofNat, Nat.mod_eq_of_lt (by simp only [IntKind.bits]; omega), Nat.mod_eq_of_lt (by simp only [IntKind.bits]; omega), told_or _ _ b1]
    rw [this, wrap_i64 (by omega) (by omega)]
  have e4 : IntKind.i64.wrap (((256 * s[0].toNat + s[1].toNat : Nat) : Int) + 7) = ((256 * s[0].toNat + s[1].toNat + 7 : Nat) : Int) := by rw [wrap_i64 (by omega) (by omega)]; rfl
  have e5 : IntKind.i64.wrap (((256 * s[0].toNat + s[1].toNat + 7 : Nat) : Int) - 1) = ((256 * s[0].toNat + s[1].toNat + 6 : Nat) : Int) := by rw [wrap_i64 (by omega) (by omega)]; omega
  have e6 : run t1.get (m - 1) 104 [.int .i64 ((256 * s[0].toNat + s[1].toNat + 6 : Nat) : Int)] h = some (.int .i64 (many (256 * s[0].toNat + s[1].toNat + 6) : Nat), h) := t1_many (by omega) (by omega) h
  simp only [s126, e0, cviC_i, w0, e2, e1, w1, e3, biC_add, e4, biC_sub, e5, clC_of e6, rd2 hs]
 end
end Go.AM.T
set_option maxRecDepth 100000
set_option linter.unusedVariables false
set_option linter.unusedSimpArgs false
namespace Go.AM.T
open Go Go.AM
def u32B (x : Int) : Bool := decide (0 ≤ x) && decide (x < 4294967296)
def gEnc : List Val → Option Val
  | [.int .u32 st, .int .i64 a, .agg [.int .i64 k, .str p]] => bif u32B st then
      (bif decide (k < 1) || decide (255 < k) || !okPlace a then some (.tup [.str [], .int .i64 1]) else
       bif decide (773 < p.length) then some (.tup [.str [], .int .i64 2]) else some (.tup [.str (encF st.toNat a.toNat (UInt8.ofNat k.toNat :: p)), .int .i64 0])) else none
  | _ => none
def gDec : List Val → Option Val
  | [.int .u32 st, .int .i64 a, .str s] => bif u32B st && okPlace a && decide (s.length < 60000) then some (decV (decM st.toNat a.toNat s)) else none
  | _ => none
def strs (xs : List (List UInt8)) : Val := .sl (match xs with | [] => .nl | _ => .ro) 1 (xs.map Val.str)
def gPcs : List Val → Option Val
  | [.str s] => bif decide (s.length < 20000) then some (strs (pieces s)) else none
  | _ => none
def gSeal : List Val → Option Val
  | [.int .u32 st, .int .i64 c, .str d] => bif u32B st && decide (1 ≤ c) && decide (c ≤ 65535) && decide (d.length = 52) then some (.tup [.str (sealB st.toNat c.toNat d), .int .i64 0]) else none
  | _ => none
def gOpen : List Val → Option Val
  | [.str s] => some (openV (openM s))
  | _ => none
def gHEnc : List Val → Option Val
  | [.agg [.int .i64 log, .int .u32 gen, .int .u32 st, .int .i64 base]] => bif u32B gen && u32B st then
      (bif mayH log base then some (.tup [.str (encH log.toNat gen.toNat st.toNat base.toNat), .int .i64 0]) else some (.tup [.str [], .int .i64 1])) else none
  | _ => none
def gTold : List Val → Option Val
  | [.str s] => bif decide (2 ≤ s.length) then some (.int .i64 (many (rd 0 (s.take 2) + 6) : Nat)) else none
  | _ => none
def gREnc : List Val → Option Val
  | [.int .u32 st, .int .i64 a, .agg [.int .i64 k, .str p]] => bif u32B st && decide (0 ≤ a) && decide (a < 65536) && decide (0 ≤ k) && decide (k < 256) && decide (p.length < 10000) then some (.str (encF st.toNat a.toNat (UInt8.ofNat k.toNat :: p))) else none
  | _ => none
def gWrong : List Val → Option Val
  | [.int .i64 a, .agg [.int .i64 k, .str p]] => some (.int .i64 (wrongM a k p : Nat))
  | _ => none
def strsR (xs : List (List UInt8)) : Val := .sl (match xs with | [] => .nl | [_] => .ex | _ => .ro) 1 (xs.map Val.str)
def gRPcs : List Val → Option Val
  | [.str s] => bif decide (s.length < 20000) then some (strsR (pieces s)) else none
  | _ => none
def frsOf : List Val → Option (List Fr)
  | [] => some []
  | .agg [.int .i64 k, .str p] :: l => match frsOf l with
    | some r => some ((k, p) :: r)
    | none => none
  | _ => none
def gSame : List Val → Option Val
  | [.sl u z l, .sl w y r] => match frsOf l, frsOf r with
    | some a, some b => bif z.beq 2 && y.beq 2 && pureV (.sl u z []) && pureV (.sl w y []) && decide (a.length < 90000) && decide (b.length < 90000) then some (.bool (decide (a = b))) else none
    | _, _ => none
  | _ => none
def gRHEnc : List Val → Option Val
  | [.agg [.int .i64 log, .int .u32 gen, .int .u32 st, .int .i64 base]] => bif u32B gen && u32B st && decide (0 ≤ log) && decide (log < 65536) && decide (0 ≤ base) && decide (base < 9223372036854775808) then some (.str (encH log.toNat gen.toNat st.toNat base.toNat)) else none
  | _ => none
def gMay : List Val → Option Val
  | [.agg [.int .i64 log, .int .u32 gen, .int .u32 st, .int .i64 base]] => some (.bool (mayH log base))
  | _ => none
def gRSeal : List Val → Option Val
  | [.int .u32 st, .int .i64 c, .str d] => bif u32B st && decide (0 ≤ c) && decide (c < 65536) && decide (d.length < 100000) then some (.str (sealB st.toNat c.toNat d)) else none
  | _ => none
theorem frsOf_some : ∀ {l : List Val} {xs : List Fr}, frsOf l = some xs → l = xs.map frV
  | [], xs, h => by cases h; rfl
  | v :: l, xs, h => by
    unfold frsOf at h
    split at h
    · cases h; rename_i e; cases e
    · rename_i k p l' e
      cases e
      split at h
      · rename_i r hr; cases h; rw [frsOf_some hr]; rfl
      · cases h
    · cases h
theorem frsOf_map : ∀ (xs : List Fr), frsOf (xs.map frV) = some xs
  | [] => rfl
  | x :: xs => by
    rw [List.map_cons]
    show (match frsOf (xs.map frV) with | some r => some ((x.1, x.2) :: r) | none => none) = _
    rw [frsOf_map xs]
theorem roVs_frs : ∀ (xs : List Fr), roVs (xs.map frV) = xs.map frV
  | [] => rfl
  | x :: xs => by simp [roVs, roV, frV, roVs_frs xs]
theorem pureVs_frs : ∀ (xs : List Fr), pureVs (xs.map frV) = true
  | [] => rfl
  | x :: xs => by simp [pureVs, pureV, frV, pureVs_frs xs]
theorem u32B_nat {x : Nat} (h : x < 4294967296) : u32B (x : Int) = true := and2 (decide_eq_true (by omega)) (decide_eq_true (by omega))
theorem u32B_iff {x : Int} (h : u32B x = true) : ∃ n : Nat, x = n ∧ n < 4294967296 := by
  simp only [u32B, Bool.and_eq_true, decide_eq_true_eq] at h
  exact ⟨x.toNat, by omega, by omega⟩
theorem strs_ro (xs : List (List UInt8)) (w : Own) (h : xs = [] → w = .nl) (h2 : xs ≠ [] → ∃ t, w = .tok t) : roV (.sl w 1 (xs.map Val.str)) = strs xs := by
  cases xs with
  | nil => rw [h rfl]; rfl
  | cons x xs =>
    obtain ⟨t, rfl⟩ := h2 (by simp)
    show Val.sl .ro 1 (roVs ((x :: xs).map Val.str)) = .sl .ro 1 ((x :: xs).map Val.str)
    rw [roVs_strs]
section
variable {h : Heap}
theorem p_enc {st a k : Nat} {p : List UInt8} (h1 : st < 4294967296) (h2 : 1 ≤ k) (h3 : k ≤ 255) (h4 : okPlace a = true) (h5 : p.length ≤ 773) : sumF gEnc [.int .u32 st, .int .i64 a, .agg [.int .i64 k, .str p]] h = some (.tup [.str (encF st a (UInt8.ofNat k :: p)), .int .i64 0], h) := by
  refine sumF_of (ys := [.int .u32 st, .int .i64 a, .agg [.int .i64 k, .str p]]) rfl ?_
  rw [gEnc.eq_1, cond_of (u32B_nat h1)]
  have e1 : (decide ((k : Int) < 1) || decide ((255 : Int) < (k : Int)) || !okPlace (a : Int)) = false := by
    rw [decide_eq_false (show ¬ ((k : Int) < 1) by omega), decide_eq_false (show ¬ ((255 : Int) < (k : Int)) by omega), h4]; rfl
  rw [e1, decide_eq_false (show ¬ (773 < p.length) by omega), Int.toNat_natCast, Int.toNat_natCast, Int.toNat_natCast]
  rfl
theorem p_enc_err {st : Nat} {a k : Int} {p : List UInt8} (h1 : st < 4294967296) (h2 : wrongM a k p ≠ 0) : sumF gEnc [.int .u32 st, .int .i64 a, .agg [.int .i64 k, .str p]] h = some (.tup [.str [], .int .i64 (wrongM a k p : Nat)], h) := by
  refine sumF_of (ys := [.int .u32 st, .int .i64 a, .agg [.int .i64 k, .str p]]) rfl ?_
  rw [gEnc.eq_1, cond_of (u32B_nat h1)]
  unfold wrongM at h2 ⊢
  by_cases c : k < 1 ∨ 255 < k ∨ okPlace a = false
  · have e1 : (decide (k < 1) || decide (255 < k) || !okPlace a) = true := by
      rcases c with c | c | c
      · rw [decide_eq_true c]; rfl
      · rw [decide_eq_true c]; simp
      · rw [c]; simp
    rw [e1, if_pos c]; rfl
  · have e1 : (decide (k < 1) || decide (255 < k) || !okPlace a) = false := by
      rw [Bool.or_eq_false_iff, Bool.or_eq_false_iff]
      refine ⟨⟨decide_eq_false (fun h => c (.inl h)), decide_eq_false (fun h => c (.inr (.inl h)))⟩, ?_⟩
      cases hh : okPlace a
      · exact absurd (.inr (.inr hh)) c
      · rfl
    rw [if_neg c] at h2 ⊢
    by_cases c2 : 773 < p.length
    · rw [e1, if_pos c2, decide_eq_true c2]; rfl
    · rw [if_neg c2] at h2; exact absurd rfl h2
theorem p_dec {st a : Nat} {s : List UInt8} (h1 : st < 4294967296) (h4 : okPlace a = true) (h5 : s.length < 60000) : sumF gDec [.int .u32 st, .int .i64 a, .str s] h = some (decV (decM st a s), h) := by
  refine sumF_of (ys := [.int .u32 st, .int .i64 a, .str s]) rfl ?_
  rw [gDec.eq_1, Int.toNat_natCast, Int.toNat_natCast]
  exact cond_of (and2 (and2 (u32B_nat h1) h4) (decide_eq_true h5))
theorem p_pcs {s : List UInt8} (h5 : s.length < 20000) : sumF gPcs [.str s] h = some (strs (pieces s), h) := by
  refine sumF_of (ys := [.str s]) rfl ?_
  rw [gPcs.eq_1]; exact cond_of (decide_eq_true h5)
theorem p_rpcs {s : List UInt8} (h5 : s.length < 20000) : sumF gRPcs [.str s] h = some (strsR (pieces s), h) := by
  refine sumF_of (ys := [.str s]) rfl ?_
  rw [gRPcs.eq_1]; exact cond_of (decide_eq_true h5)
theorem p_seal {st c : Nat} {d : List UInt8} (h1 : st < 4294967296) (h2 : 1 ≤ c) (h3 : c ≤ 65535) (h4 : d.length = 52) : sumF gSeal [.int .u32 st, .int .i64 c, .str d] h = some (.tup [.str (sealB st c d), .int .i64 0], h) := by
  refine sumF_of (ys := [.int .u32 st, .int .i64 c, .str d]) rfl ?_
  rw [gSeal.eq_1, Int.toNat_natCast, Int.toNat_natCast]
  exact cond_of (and2 (and2 (and2 (u32B_nat h1) (decide_eq_true (by omega))) (decide_eq_true (by omega))) (decide_eq_true h4))
theorem p_open {s : List UInt8} : sumF gOpen [.str s] h = some (openV (openM s), h) := sumF_of (ys := [.str s]) rfl rfl
theorem p_henc {log gen st base : Nat} (h1 : mayH log base = true) (h2 : gen < 4294967296) (h3 : st < 4294967296) : sumF gHEnc [hV log gen st base] h = some (.tup [.str (encH log gen st base), .int .i64 0], h) := by
  refine sumF_of (ys := [hV log gen st base]) rfl ?_
  show gHEnc [.agg [.int .i64 (log : Int), .int .u32 (gen : Int), .int .u32 (st : Int), .int .i64 (base : Int)]] = _
  rw [gHEnc.eq_1, cond_of (and2 (u32B_nat h2) (u32B_nat h3)), cond_of h1, Int.toNat_natCast, Int.toNat_natCast, Int.toNat_natCast, Int.toNat_natCast]
theorem p_henc_err {log base : Int} {gen st : Nat} (h1 : mayH log base = false) (h2 : gen < 4294967296) (h3 : st < 4294967296) : sumF gHEnc [hV log gen st base] h = some (.tup [.str [], .int .i64 1], h) := by
  refine sumF_of (ys := [hV log gen st base]) rfl ?_
  show gHEnc [.agg [.int .i64 log, .int .u32 (gen : Int), .int .u32 (st : Int), .int .i64 base]] = _
  rw [gHEnc.eq_1, cond_of (and2 (u32B_nat h2) (u32B_nat h3)), h1]; rfl
theorem p_told {s : List UInt8} (h1 : 2 ≤ s.length) : sumF gTold [.str s] h = some (.int .i64 (many (rd 0 (s.take 2) + 6) : Nat), h) := by
  refine sumF_of (ys := [.str s]) rfl ?_
  rw [gTold.eq_1]; exact cond_of (decide_eq_true h1)
theorem p_renc {st a k : Nat} {p : List UInt8} (h1 : st < 4294967296) (h2 : a < 65536) (h3 : k < 256) (h5 : p.length < 10000) : sumF gREnc [.int .u32 st, .int .i64 a, .agg [.int .i64 k, .str p]] h = some (.str (encF st a (UInt8.ofNat k :: p)), h) := by
  refine sumF_of (ys := [.int .u32 st, .int .i64 a, .agg [.int .i64 k, .str p]]) rfl ?_
  rw [gREnc.eq_1, Int.toNat_natCast, Int.toNat_natCast, Int.toNat_natCast]
  exact cond_of (and2 (and2 (and2 (and2 (and2 (u32B_nat h1) (decide_eq_true (by omega))) (decide_eq_true (by omega))) (decide_eq_true (by omega))) (decide_eq_true (by omega))) (decide_eq_true h5))
theorem p_wrong {a k : Int} {p : List UInt8} : sumF gWrong [.int .i64 a, .agg [.int .i64 k, .str p]] h = some (.int .i64 (wrongM a k p : Nat), h) := sumF_of (ys := [.int .i64 a, .agg [.int .i64 k, .str p]]) rfl rfl
theorem roOwn_pure (w : Own) : pureV (.sl (match w with | .tok _ => .ro | w => w) 2 []) = true := by cases w <;> rfl
theorem p_same {u w : Own} {xs ys : List Fr} (h1 : xs.length < 90000) (h2 : ys.length < 90000) : sumF gSame [.sl u 2 (xs.map frV), .sl w 2 (ys.map frV)] h = some (.bool (decide (xs = ys)), h) := by
  refine sumF_of (ys := [.sl (match u with | .tok _ => .ro | w => w) 2 (xs.map frV), .sl (match w with | .tok _ => .ro | w => w) 2 (ys.map frV)]) (by cases u <;> cases w <;> simp [roVs, roV, roVs_frs]) ?_
  rw [gSame.eq_1, frsOf_map, frsOf_map]
  exact cond_of (and2 (and2 (and2 (and2 (and2 rfl rfl) (roOwn_pure u)) (roOwn_pure w)) (decide_eq_true h1)) (decide_eq_true h2))
theorem p_rhenc {log gen st base : Nat} (h0 : log < 65536) (h2 : gen < 4294967296) (h3 : st < 4294967296) (h4 : base < 9223372036854775808) : sumF gRHEnc [hV log gen st base] h = some (.str (encH log gen st base), h) := by
  refine sumF_of (ys := [hV log gen st base]) rfl ?_
  show gRHEnc [.agg [.int .i64 (log : Int), .int .u32 (gen : Int), .int .u32 (st : Int), .int .i64 (base : Int)]] = _
  rw [gRHEnc.eq_1, Int.toNat_natCast, Int.toNat_natCast, Int.toNat_natCast, Int.toNat_natCast]
  exact cond_of (and2 (and2 (and2 (and2 (and2 (u32B_nat h2) (u32B_nat h3)) (decide_eq_true (by omega))) (decide_eq_true (by omega))) (decide_eq_true (by omega))) (decide_eq_true (by omega)))
theorem p_may {log gen st base : Int} : sumF gMay [hV log gen st base] h = some (.bool (mayH log base), h) := sumF_of (ys := [hV log gen st base]) rfl rfl
theorem p_rseal {st c : Nat} {d : List UInt8} (h1 : st < 4294967296) (h3 : c < 65536) (h4 : d.length < 100000) : sumF gRSeal [.int .u32 st, .int .i64 c, .str d] h = some (.str (sealB st c d), h) := by
  refine sumF_of (ys := [.int .u32 st, .int .i64 c, .str d]) rfl ?_
  rw [gRSeal.eq_1, Int.toNat_natCast, Int.toNat_natCast]
  exact cond_of (and2 (and2 (and2 (u32B_nat h1) (decide_eq_true (by omega))) (decide_eq_true (by omega))) (decide_eq_true h4))
 end
end Go.AM.T
set_option maxRecDepth 100000
set_option linter.unusedVariables false
set_option linter.unusedSimpArgs false
namespace Go.AM.T
open Go Go.AM
def t2 : TT := .node 81 (.node 68 (.node 63 (.leaf 12 (.prim (sumF gMay))) (.node 66 (.leaf 63 F63) (.leaf 66 (.prim (sumF gRHEnc))))) (.node 69 (.leaf 68 (.prim (sumF gREnc))) (.node 80 (.leaf 69 (.prim (sumF gRSeal))) (.leaf 80 F80)))) (.node 118 (.node 87 (.leaf 81 F81) (.node 115 (.leaf 87 (.prim (sumF gHEnc))) (.leaf 115 (.prim (sumF gRRead))))) (.node 133 (.node 124 (.leaf 118 F118) (.leaf 124 F124)) (.node 155 (.leaf 133 F133) (.leaf 155 (.prim (sumF gRead))))))
theorem t2_12 : t2.get 12 = some (.prim (sumF gMay)) := rfl
theorem t2_63 : t2.get 63 = some F63 := rfl
theorem t2_66 : t2.get 66 = some (.prim (sumF gRHEnc)) := rfl
theorem t2_68 : t2.get 68 = some (.prim (sumF gREnc)) := rfl
theorem t2_69 : t2.get 69 = some (.prim (sumF gRSeal)) := rfl
theorem t2_80 : t2.get 80 = some F80 := rfl
theorem t2_81 : t2.get 81 = some F81 := rfl
theorem t2_87 : t2.get 87 = some (.prim (sumF gHEnc)) := rfl
theorem t2_115 : t2.get 115 = some (.prim (sumF gRRead)) := rfl
theorem t2_118 : t2.get 118 = some F118 := rfl
theorem t2_124 : t2.get 124 = some F124 := rfl
theorem t2_133 : t2.get 133 = some F133 := rfl
theorem t2_155 : t2.get 155 = some (.prim (sumF gRead)) := rfl
theorem t2_r12 {m : Nat} (hm : 0 < m) (xs : List Val) (h : Heap) : run t2.get m 12 xs h = ((sumF gMay)) xs h := by
  obtain ⟨m, rfl⟩ : ∃ q, m = q + 1 := ⟨m - 1, by omega⟩
  rw [run_succ t2_12]; rfl
theorem t2_r63 {m : Nat} (hm : 0 < m) (a0 : Val) (h : Heap) : run t2.get m 63 [a0] h = s63 (run t2.get (m - 1)) (m - 1) a0 h := by
  obtain ⟨m, rfl⟩ : ∃ q, m = q + 1 := ⟨m - 1, by omega⟩
  rw [run_succ t2_63, e63]; rfl
theorem t2_r66 {m : Nat} (hm : 0 < m) (xs : List Val) (h : Heap) : run t2.get m 66 xs h = ((sumF gRHEnc)) xs h := by
  obtain ⟨m, rfl⟩ : ∃ q, m = q + 1 := ⟨m - 1, by omega⟩
  rw [run_succ t2_66]; rfl
theorem t2_r68 {m : Nat} (hm : 0 < m) (xs : List Val) (h : Heap) : run t2.get m 68 xs h = ((sumF gREnc)) xs h := by
  obtain ⟨m, rfl⟩ : ∃ q, m = q + 1 := ⟨m - 1, by omega⟩
  rw [run_succ t2_68]; rfl
theorem t2_r69 {m : Nat} (hm : 0 < m) (xs : List Val) (h : Heap) : run t2.get m 69 xs h = ((sumF gRSeal)) xs h := by
  obtain ⟨m, rfl⟩ : ∃ q, m = q + 1 := ⟨m - 1, by omega⟩
  rw [run_succ t2_69]; rfl
theorem t2_r80 {m : Nat} (hm : 0 < m) (a0 : Val) (h : Heap) : run t2.get m 80 [a0] h = s80 (run t2.get (m - 1)) (m - 1) a0 h := by
  obtain ⟨m, rfl⟩ : ∃ q, m = q + 1 := ⟨m - 1, by omega⟩
  rw [run_succ t2_80, e80]; rfl
theorem t2_r81 {m : Nat} (hm : 0 < m) (a0 : Val) (a1 : Val) (a2 : Val) (h : Heap) : run t2.get m 81 [a0, a1, a2] h = s81 (run t2.get (m - 1)) (m - 1) a0 a1 a2 h := by
  obtain ⟨m, rfl⟩ : ∃ q, m = q + 1 := ⟨m - 1, by omega⟩
  rw [run_succ t2_81, e81]; rfl
theorem t2_r87 {m : Nat} (hm : 0 < m) (xs : List Val) (h : Heap) : run t2.get m 87 xs h = ((sumF gHEnc)) xs h := by
  obtain ⟨m, rfl⟩ : ∃ q, m = q + 1 := ⟨m - 1, by omega⟩
  rw [run_succ t2_87]; rfl
theorem t2_r115 {m : Nat} (hm : 0 < m) (xs : List Val) (h : Heap) : run t2.get m 115 xs h = ((sumF gRRead)) xs h := by
  obtain ⟨m, rfl⟩ : ∃ q, m = q + 1 := ⟨m - 1, by omega⟩
  rw [run_succ t2_115]; rfl
theorem t2_r118 {m : Nat} (hm : 0 < m) (a0 : Val) (h : Heap) : run t2.get m 118 [a0] h = s118 (run t2.get (m - 1)) (m - 1) a0 h := by
  obtain ⟨m, rfl⟩ : ∃ q, m = q + 1 := ⟨m - 1, by omega⟩
  rw [run_succ t2_118, e118]; rfl
theorem t2_r124 {m : Nat} (hm : 0 < m) (a0 : Val) (h : Heap) : run t2.get m 124 [a0] h = s124 (run t2.get (m - 1)) (m - 1) a0 h := by
  obtain ⟨m, rfl⟩ : ∃ q, m = q + 1 := ⟨m - 1, by omega⟩
  rw [run_succ t2_124, e124]; rfl
theorem t2_r133 {m : Nat} (hm : 0 < m) (a0 : Val) (h : Heap) : run t2.get m 133 [a0] h = s133 (run t2.get (m - 1)) (m - 1) a0 h := by
  obtain ⟨m, rfl⟩ : ∃ q, m = q + 1 := ⟨m - 1, by omega⟩
  rw [run_succ t2_133, e133]; rfl
theorem t2_r155 {m : Nat} (hm : 0 < m) (xs : List Val) (h : Heap) : run t2.get m 155 xs h = ((sumF gRead)) xs h := by
  obtain ⟨m, rfl⟩ : ∃ q, m = q + 1 := ⟨m - 1, by omega⟩
  rw [run_succ t2_155]; rfl
end Go.AM.T
set_option maxRecDepth 100000
set_option linter.unusedVariables false
set_option linter.unusedSimpArgs false
namespace Go.AM.T
open Go Go.AM
section
variable {m : Nat} {h : Heap}
def decHM (s : List UInt8) : Nat × Nat × Nat × Nat × Nat :=
  if s.length < 32 then (0, 0, 0, 0, 3) else
  let log := rd 0 ((s.take 4).drop 2)
  let gen := rd 0 ((s.take 8).drop 4)
  let st := rd 0 ((s.take 12).drop 8)
  let base := rd 0 ((s.take 20).drop 12)
  if 1099511627776 < base then (0, 0, 0, 0, 4) else
  if mayH log base = true ∧ encH log gen st base = s.take 32 then (log, gen, st, base, 0) else (0, 0, 0, 0, 4)
def decHV (r : Nat × Nat × Nat × Nat × Nat) : Val := .tup [hV r.1 r.2.1 r.2.2.1 r.2.2.2.1, .int .i64 r.2.2.2.2]
def decHR (r : Nat × Nat × Nat × Nat × Nat) : Val := .agg [.int .i64 r.1, .int .u32 r.2.1, .int .u32 r.2.2.1, .int .i64 r.2.2.2.1, .int .i64 r.2.2.2.2]
theorem decH_step {q n i a v sz : Nat} {s : List UInt8} {b2 b4 : Nat} (hq : 3 ≤ q) (hi : i < 4) {l L z2 : List Val} (hl : (l.drop (i * 2)).take 2 = [.int .u64 v, .int .i64 sz]) (hl2 : i * 2 + 2 ≤ l.length) (h1 : 1 ≤ sz) (h8 : sz ≤ 8) (ha : a + sz ≤ s.length) (ha2 : a + sz < 100000) (hL : L.length = 4) (hne : b2 ≠ b4) {V : Val} {p : Nat} {h : Heap} (hf : Fit h) (hb2 : h.blk b2 = some (.cells z2)) (hb4 : h.blk b4 = some (.cells L))
    (next : ∀ h', Fit h' → h'.blk b2 = some (.cells z2) → h'.blk b4 = some (.cells (L.take i ++ [.int .u64 (rd 0 ((s.take (a + sz)).drop a) : Nat)] ++ L.drop (i + 1))) → ∃ h'', Fit h'' ∧ iter p (fun again0 xs h => s124_l0 (run t2.get q) n again0 (.str s) (.ptr b2 0) (.ptr b4 0) (.agg l) (getN xs 0) (getN xs 1) h) [.int .i64 (a + sz : Nat), .int .i64 (i + 1 : Nat)] h' = some (V, h'')) :
    ∃ h'', Fit h'' ∧ iter (p + 1) (fun again0 xs h => s124_l0 (run t2.get q) n again0 (.str s) (.ptr b2 0) (.ptr b4 0) (.agg l) (getN xs 0) (getN xs 1) h) [.int .i64 a, .int .i64 i] h = some (V, h'') := by
  let r := rd 0 ((s.take (a + sz)).drop a)
  let H1 := (h.add (.cells [.int .u64 0, .int .i64 0])).put h.next (.cells [.int .u64 v, .int .i64 sz])
  have n2 : b2 < h.next := hf.lt hb2
  have n4 : b4 < h.next := hf.lt hb4
  have hf1 : Fit H1 := (hf.add _).put _ (by simp)
  have k2 : H1.blk b2 = some (.cells z2) := by rw [blk_put_ne _ (by omega), blk_add_ne _ (by omega)]; exact hb2
  have k4 : H1.blk b4 = some (.cells L) := by rw [blk_put_ne _ (by omega), blk_add_ne _ (by omega)]; exact hb4
  let H2 := H1.put b4 (.cells (L.take i ++ [.int .u64 (r : Nat)] ++ L.drop (i + 1)))
  have hf2 : Fit H2 := hf1.put _ (hf1.lt k4)
  have kt : H2.blk h.next = some (.cells [.int .u64 v, .int .i64 sz]) := by rw [blk_put_ne _ (by omega)]; exact blk_put_same _ _
  obtain ⟨h3, hf3, nx⟩ := next H2 hf2 (by rw [blk_put_ne _ hne]; exact k2) (blk_put_same _ _)
  refine ⟨h3, hf3, ?_⟩
  rw [iter_succ]
  generalize iter p (fun again0 xs h => s124_l0 (run t2.get q) n again0 (.str s) (.ptr b2 0) (.ptr b4 0) (.agg l) (getN xs 0) (getN xs 1) h) = G at nx ⊢
  have g1 : icmp .lt (i : Int) 4 = true := decide_eq_true (by omega)
  have e1 : ∀ K, ixaC true 4 2 (.agg l) (.int .i64 (i : Int)) K = K (.agg [.int .u64 v, .int .i64 sz]) := fun K => by rw [ixaC_e hi hl2, hl]; rfl
  have e2 : ∀ K, stC 2 (.ptr h.next 0) (.agg [.int .u64 v, .int .i64 sz]) (h.add (.cells [.int .u64 0, .int .i64 0])) K = K H1 := fun K => (stC_p (n := 2) (blk_add_same _) rfl (by simp)).trans rfl
  have e3 : ∀ K, ldC false 1 (.ptr h.next 1) H1 K = K (.int .i64 sz) := fun K => by rw [ldC_p (blk_put_same _ _) (by simp)]; rfl
  have e4 : IntKind.i64.wrap ((a : Int) + (sz : Int)) = ((a + sz : Nat) : Int) := by rw [wrap_i64 (by omega) (by omega)]; rfl
  have e5 : ∀ K, slsC (.str s) (some (.int .i64 (a : Int))) (some (.int .i64 ((a + sz : Nat) : Int))) K = K (.str ((s.take (a + sz)).drop a)) := fun K => slsC_some_some (by omega) (by omega) (by omega)
  have l1 : ((s.take (a + sz)).drop a).length = sz := by simp; omega
  have e6 : ∀ G, run t2.get q 155 [.str ((s.take (a + sz)).drop a)] G = some (.tup [.int .u64 (r : Nat), .int .i64 0], G) := fun G => by rw [t2_r155 (by omega)]; exact p_read (by omega) (by omega)
  have e7 : ∀ K, ixpC 4 1 (.ptr b4 0) (.int .i64 (i : Int)) K = K (.ptr b4 i) := fun K => by rw [ixpC_p (by omega) (by omega)]; simp
  have e8 : ∀ K, stC 1 (.ptr b4 i) (.int .u64 (r : Nat)) H1 K = K H2 := fun K => (stC_p (n := 1) k4 rfl (by omega)).trans rfl
  have e9 : ∀ K, ldC false 1 (.ptr h.next 1) H2 K = K (.int .i64 sz) := fun K => by rw [ldC_p kt (by simp)]; rfl
  have e10 : IntKind.i64.wrap ((i : Int) + 1) = ((i + 1 : Nat) : Int) := i64s (by omega)
  simp only [getN_0, getN_s, s124_l0, cmC_int, g1, cnd_t, e1, allocC_e, e2, faC_p, Nat.zero_add, e3, biC_add, e4, e5, clC_of (e6 _), exC_0, exC_1, e7, e8, e9, e10]
  exact nx
 end
end Go.AM.T
set_option maxRecDepth 100000
set_option linter.unusedVariables false
set_option linter.unusedSimpArgs false
namespace Go.AM.T
open Go Go.AM
def hz : List Val := [.int .i64 0, .int .u32 0, .int .u32 0, .int .i64 0]
section
variable {m : Nat} {h : Heap}
theorem decH_end {q n : Nat} {s : List UInt8} {b2 b4 : Nat} (hq : 30 ≤ q) {l : List Val} {log gen st base : Nat} (h1 : log < 65536) (h2 : gen < 4294967296) (h3 : st < 4294967296) (h4 : base < 18446744073709551616) (hs : 32 ≤ s.length) (hne : b2 ≠ b4)
    (hlog : log = rd 0 ((s.take 4).drop 2)) (hgen : gen = rd 0 ((s.take 8).drop 4)) (hst : st = rd 0 ((s.take 12).drop 8)) (hbase : base = rd 0 ((s.take 20).drop 12))
    {p : Nat} {h : Heap} (hf : Fit h) (hb2 : h.blk b2 = some (.cells hz)) (hb4 : h.blk b4 = some (.cells [.int .u64 log, .int .u64 gen, .int .u64 st, .int .u64 base])) :
    ∃ h'', Fit h'' ∧ iter (p + 1) (fun again0 xs h => s124_l0 (run t2.get q) n again0 (.str s) (.ptr b2 0) (.ptr b4 0) (.agg l) (getN xs 0) (getN xs 1) h) [.int .i64 (20 : Nat), .int .i64 (4 : Nat)] h = some (decHV (decHM s), h'') := by
  have hM : decHM s = if 1099511627776 < base then (0, 0, 0, 0, 4) else if mayH log base = true ∧ encH log gen st base = s.take 32 then (log, gen, st, base, 0) else (0, 0, 0, 0, 4) := by
    unfold decHM
    rw [if_neg (by omega)]
    simp only [← hlog, ← hgen, ← hst, ← hbase]
  have n2 : b2 < h.next := hf.lt hb2
  have n4 : b4 < h.next := hf.lt hb4
  have x3 : ∀ K, ixpC 4 1 (.ptr b4 0) (.int .i64 3) K = K (.ptr b4 3) := fun K => ixpC_p (by decide) (by decide)
  have x0 : ∀ K, ixpC 4 1 (.ptr b4 0) (.int .i64 0) K = K (.ptr b4 0) := fun K => ixpC_p (by decide) (by decide)
  have x1 : ∀ K, ixpC 4 1 (.ptr b4 0) (.int .i64 1) K = K (.ptr b4 1) := fun K => ixpC_p (by decide) (by decide)
  have x2 : ∀ K, ixpC 4 1 (.ptr b4 0) (.int .i64 2) K = K (.ptr b4 2) := fun K => ixpC_p (by decide) (by decide)
  have y0 : ∀ K, ldC false 1 (.ptr b4 0) h K = K (.int .u64 log) := fun K => by rw [ldC_p hb4 (by simp)]; rfl
  have y1 : ∀ K, ldC false 1 (.ptr b4 1) h K = K (.int .u64 gen) := fun K => by rw [ldC_p hb4 (by simp)]; rfl
  have y2 : ∀ K, ldC false 1 (.ptr b4 2) h K = K (.int .u64 st) := fun K => by rw [ldC_p hb4 (by simp)]; rfl
  have y3 : ∀ K, ldC false 1 (.ptr b4 3) h K = K (.int .u64 base) := fun K => by rw [ldC_p hb4 (by simp)]; rfl
  have g1 : icmp .lt ((4 : Nat) : Int) 4 = false := rfl
  have az : ∀ K, aggC [.int .i64 0, .int .u32 0, .int .u32 0, .int .i64 0] [] K = K (.agg hz) := fun K => rfl
  have sz : ∀ (H : Heap), H.blk b2 = some (.cells hz) → ∀ (log gen st base : Int) K, stC 4 (.ptr b2 0) (.agg [.int .i64 log, .int .u32 gen, .int .u32 st, .int .i64 base]) H K = K (H.put b2 (.cells [.int .i64 log, .int .u32 gen, .int .u32 st, .int .i64 base])) := fun H hH log gen st base K => (stC_p (n := 4) hH rfl (by simp [hz])).trans rfl
  have lz : ∀ (H : Heap) (log gen st base : Int) K, ldC true 4 (.ptr b2 0) (H.put b2 (.cells [.int .i64 log, .int .u32 gen, .int .u32 st, .int .i64 base])) K = K (hV log gen st base) := fun H log gen st base K => by rw [ldC_p (blk_put_same _ _) (by simp)]; rfl
  have hzE : Val.agg hz = .agg [.int .i64 0, .int .u32 0, .int .u32 0, .int .i64 0] := rfl
  rw [iter_succ]
  generalize iter p _ = G
  show ∃ h'', Fit h'' ∧ s124_l0 (run t2.get q) n G (.str s) (.ptr b2 0) (.ptr b4 0) (.agg l) (.int .i64 (20 : Nat)) (.int .i64 (4 : Nat)) h = _
  by_cases f1 : 1099511627776 < base
  · have g2 : icmp .gt (base : Int) 1099511627776 = true := decide_eq_true (by omega)
    refine ⟨h.put b2 (.cells hz), hf.put _ n2, ?_⟩
    rw [hM, if_pos f1]
    unfold s124_l0
    simp only [cmC_int, g1, cnd_f, x3, y3, g2, cnd_t, az, hzE, sz h hb2, lz]
    rfl
  have g2 : icmp .gt (base : Int) 1099511627776 = false := decide_eq_false (by omega)
  have w0 : IntKind.i64.wrap (log : Int) = (log : Int) := wrap_i64 (by omega) (by omega)
  have w1 : IntKind.u32.wrap (gen : Int) = (gen : Int) := wrap_u32 (by omega) (by omega)
  have w2 : IntKind.u32.wrap (st : Int) = (st : Int) := wrap_u32 (by omega) (by omega)
  have w3 : IntKind.i64.wrap (base : Int) = (base : Int) := wrap_i64 (by omega) (by omega)
  have ag : ∀ K, aggC [.int .i64 0, .int .u32 0, .int .u32 0, .int .i64 0] [(0, 1, .int .i64 (log : Int)), (1, 1, .int .u32 (gen : Int)), (2, 1, .int .u32 (st : Int)), (3, 1, .int .i64 (base : Int))] K = K (hV log gen st base) := fun K => rfl
  let C : List Val := [.int .i64 log, .int .u32 gen, .int .u32 st, .int .i64 base]
  let H1 := (h.add (.cells hz)).put h.next (.cells C)
  have s1 : ∀ K, stC 4 (.ptr h.next 0) (hV log gen st base) (h.add (.cells hz)) K = K H1 := fun K => (stC_p (n := 4) (blk_add_same _) rfl (by simp [hz])).trans rfl
  have hf1 : Fit H1 := (hf.add _).put _ (by simp)
  have l1 : ∀ K, ldC true 4 (.ptr h.next 0) H1 K = K (hV log gen st base) := fun K => by rw [ldC_p (blk_put_same _ _) (by simp [C])]; rfl
  have k2 : H1.blk b2 = some (.cells hz) := by rw [blk_put_ne _ (by omega), blk_add_ne _ (by omega)]; exact hb2
  have tk : ∀ K, slsC (.str s) none (some (.int .i64 32)) K = K (.str (s.take 32)) := fun K => slsC_none_some (by decide) (by omega)
  have n0 : icmp .ne (0 : Int) 0 = false := rfl
  have n1 : icmp .ne (1 : Int) 0 = true := rfl
  have bad : decHM s = (0, 0, 0, 0, 4) → ∃ h'', Fit h'' ∧ (stC 4 (.ptr b2 0) (.agg hz) H1 fun h => ldC true 4 (.ptr b2 0) h fun v62 => some (.tup [v62, .int .i64 4], h)) = some (decHV (decHM s), h'') := fun hd => by
    refine ⟨H1.put b2 (.cells hz), hf1.put _ (hf1.lt k2), ?_⟩
    rw [hd, hzE, sz H1 k2, lz]; rfl
  by_cases f2 : mayH log base = true
  · have ec : run t2.get q 87 [hV log gen st base] H1 = some (.tup [.str (encH log gen st base), .int .i64 0], H1) := by rw [t2_r87 (by omega)]; exact p_henc f2 h2 h3
    by_cases f3 : encH log gen st base = s.take 32
    · have hd : decHM s = (log, gen, st, base, 0) := by rw [hM, if_neg f1, if_pos ⟨f2, f3⟩]
      have c3 : scmp .ne (encH log gen st base) (s.take 32) = false := by rw [sne, decide_eq_true f3]; rfl
      refine ⟨H1.put b2 (.cells C), hf1.put _ (hf1.lt k2), ?_⟩
      rw [hd]
      unfold s124_l0
      simp only [cmC_int, g1, cnd_f, x3, y3, g2, x0, y0, x1, y1, x2, y2, cviC_i, w0, w1, w2, w3, ag, allocC_e]
      show stC 4 (.ptr h.next 0) (hV log gen st base) (h.add (.cells hz)) _ = _
      simp only [s1, l1, clC_of ec, exC_0, exC_1, cmC_int, n0, gdC_ff, elim_some, tk, cmC_str, c3, pickC_f, cnd_f]
      show stC 4 (.ptr b2 0) (.agg [.int .i64 (log : Int), .int .u32 (gen : Int), .int .u32 (st : Int), .int .i64 (base : Int)]) H1 _ = _
      rw [sz H1 k2, lz]; rfl
    · have hd : decHM s = (0, 0, 0, 0, 4) := by rw [hM, if_neg f1, if_neg (fun h => f3 h.2)]
      have c3 : scmp .ne (encH log gen st base) (s.take 32) = true := by rw [sne, decide_eq_false f3]; rfl
      obtain ⟨h9, hf9, e9⟩ := bad hd
      refine ⟨h9, hf9, ?_⟩
      unfold s124_l0
      simp only [cmC_int, g1, cnd_f, x3, y3, g2, x0, y0, x1, y1, x2, y2, cviC_i, w0, w1, w2, w3, ag, allocC_e]
      show stC 4 (.ptr h.next 0) (hV log gen st base) (h.add (.cells hz)) _ = _
      simp only [s1, l1, clC_of ec, exC_0, exC_1, cmC_int, n0, gdC_ff, elim_some, tk, cmC_str, c3, pickC_f, cnd_t, az]
      exact e9
  · have f2' : mayH log base = false := by simpa using f2
    have ec : run t2.get q 87 [hV log gen st base] H1 = some (.tup [.str [], .int .i64 1], H1) := by rw [t2_r87 (by omega)]; exact p_henc_err f2' h2 h3
    have hd : decHM s = (0, 0, 0, 0, 4) := by rw [hM, if_neg f1, if_neg (fun h => f2 h.1)]
    obtain ⟨h9, hf9, e9⟩ := bad hd
    refine ⟨h9, hf9, ?_⟩
    unfold s124_l0
    simp only [cmC_int, g1, cnd_f, x3, y3, g2, x0, y0, x1, y1, x2, y2, cviC_i, w0, w1, w2, w3, ag, allocC_e]
    show stC 4 (.ptr h.next 0) (hV log gen st base) (h.add (.cells hz)) _ = _
    simp only [s1, l1, clC_of ec, exC_0, exC_1, cmC_int, n1, gdC_tf, gdC_u, pickC_t, cnd_t, az]
    exact e9
theorem t2_fields {log gen st base : Nat} (hm : 2 ≤ m) (h1 : log < 65536) (h2 : gen < 4294967296) (h3 : st < 4294967296) (h4 : base < 9223372036854775808) (h : Heap) :
    ∃ h', run t2.get m 133 [hV log gen st base] h = some (.agg (fV log gen st base), h') ∧ (Fit h → Fit h') ∧ ∀ b c, h.blk b = some (.cells c) → Fit h → h'.blk b = some (.cells c) := by
  rw [t2_r133 (by omega)]
  have ne : ¬ (h.next = h.next + 1) := by omega
  have ne2 : ¬ (h.next + 1 = h.next) := by omega
  refine ⟨?_, ?_, ?_⟩
  rotate_left
  · simp (disch := omega) only [↓cmC_int, ↓cmC_str, ↓biC_add, ↓biC_sub, ↓biC_mul, ↓notC_b, ↓negC_i, ↓cviC_i, ↓cssC_s, ↓cnd_t, ↓cnd_f, ↓pickC_t, ↓pickC_f, ↓gdC_tt, ↓gdC_ff, ↓gdC_tf, ↓gdC_ft, ↓gdC_u, ↓elim_some, ↓exC_0, ↓exC_1, ↓exC_2, ↓exC_3, ↓lensC_s, ↓lenlC_s, ↓lenlC_m, ↓mnC_i, ↓mxC_i, ↓getN_0, ↓getN_s, ↓allocC_e, ↓nilC_p, ↓nilC_e, ↓nilC_f, ↓faC_p, ↓ldC_m, ↓ldK_some, ↓stC_m, ↓stK_some, ↓boxC_m, ↓aggC_m, ↓shC_shrN, ↓ixpC_p, ↓addSC_s, ↓iter_succ, ↓if_true, ↓if_false, ↓reduceIte, shC_shrN, ixpC_p, addSC_s, icmp_eq, icmp_ne, icmp_lt, icmp_le, icmp_gt, icmp_ge, decide_true, decide_false, Bool.not_true, Bool.not_false, Bool.true_and, Bool.and_true, Bool.false_and, Bool.and_false, wrap_i64, wrap_u64, wrap_u32, wrap_u8, cs_put, cs_add, Heap.next_put, Heap.next_add, cells_int, cells_str, cells_bool, cells_ptr, cells_sl, cells_ms, cells_nilp, cells_func, cells_agg, mk_t, mk_f, putA, putN, cond_true, cond_false, Nat.beq_refl, Option.map_some, List.length_cons, List.length_nil, List.drop_succ_cons, List.drop_zero, List.drop_nil, List.take_succ_cons, List.take_zero, List.take_nil, List.cons_append, List.nil_append, List.append_nil, Nat.zero_add, Nat.add_zero, Int.toNat_natCast, Int.toNat_zero, Int.toNat_one, ne_eq, not_true_eq_false, not_false_eq_true, and_self, and_true, true_and, eq_self, Nat.reduceAdd, Nat.reduceLeDiff, Nat.reduceMul, Nat.reduceSub, Nat.left_eq_add, Nat.add_eq_left, Nat.reduceEqDiff, Nat.one_ne_zero, s133, hV, ne, ne2]
    rfl
  refine ⟨fun hf => ?_, fun b c hb hf => ?_⟩
  · exact ((hf.add _).add _).put _ (by simp)
  · have := hf.lt hb
    rw [blk_put_ne _ (by omega), blk_add_ne _ (by simp only [Heap.next_add]; omega), blk_add_ne _ (by omega)]
    exact hb
theorem t2_hdecode {s : List UInt8} (hm : 60 ≤ m) (hs : s.length < 60000) {h : Heap} (hf : Fit h) :
    ∃ h', Fit h' ∧ run t2.get m 124 [.str s] h = some (decHV (decHM s), h') := by
  by_cases f1 : s.length < 32
  · have g1 : icmp .lt (s.length : Int) 32 = true := decide_eq_true (by omega)
    let H0 := h.add (.cells hz)
    refine ⟨H0.put h.next (.cells hz), (hf.add _).put _ (by simp), ?_⟩
    have hd : decHM s = (0, 0, 0, 0, 3) := if_pos f1
    have az : ∀ K, aggC [.int .i64 0, .int .u32 0, .int .u32 0, .int .i64 0] [] K = K (.agg hz) := fun K => rfl
    have s1 : ∀ K, stC 4 (.ptr h.next 0) (.agg hz) (h.add (.cells [.int .i64 0, .int .u32 0, .int .u32 0, .int .i64 0])) K = K (H0.put h.next (.cells hz)) := fun K => (stC_p (n := 4) (blk_add_same _) rfl (by simp)).trans rfl
    have l1 : ∀ K, ldC true 4 (.ptr h.next 0) (H0.put h.next (.cells hz)) K = K (.agg hz) := fun K => by rw [ldC_p (blk_put_same _ _) (by simp [hz])]; rfl
    rw [t2_r124 (by omega), hd]
    simp only [s124, allocC_e, lensC_s, cmC_int, g1, cnd_t, az, s1, l1]
    rfl
  have g1 : icmp .lt (s.length : Int) 32 = false := decide_eq_false (by omega)
  let b2 := h.next
  let b4 := h.next + 1
  let H2 := (h.add (.cells hz)).add (.cells [.int .u64 0, .int .u64 0, .int .u64 0, .int .u64 0])
  have hf2 : Fit H2 := (hf.add _).add _
  obtain ⟨H3, e3, hf3, k3⟩ := t2_fields (m := m - 1) (log := 0) (gen := 0) (st := 0) (base := 0) (by omega) (by decide) (by decide) (by decide) (by decide) H2
  have hf3 := hf3 hf2
  have hb2 : H3.blk b2 = some (.cells hz) := k3 _ _ (by rw [blk_add_ne _ (by simp [b2])]; exact blk_add_same _) hf2
  have hb4 : H3.blk b4 = some (.cells [.int .u64 0, .int .u64 0, .int .u64 0, .int .u64 0]) := k3 _ _ (blk_add_same _) hf2
  have hne : b2 ≠ b4 := by simp only [b2, b4]; omega
  have r1 : rd 0 ((s.take 4).drop 2) < 65536 := by have := rd_lt' (s := (s.take 4).drop 2) (n := 2) (by simp; omega); simpa using this
  have r2 : rd 0 ((s.take 8).drop 4) < 4294967296 := by have := rd_lt' (s := (s.take 8).drop 4) (n := 4) (by simp; omega); simpa using this
  have r3 : rd 0 ((s.take 12).drop 8) < 4294967296 := by have := rd_lt' (s := (s.take 12).drop 8) (n := 4) (by simp; omega); simpa using this
  have r4 : rd 0 ((s.take 20).drop 12) < 18446744073709551616 := by have := rd_lt' (s := (s.take 20).drop 12) (n := 8) (by simp; omega); simpa using this
  have s5 := fun (hh : Heap) (hfh : Fit hh) (k2 : hh.blk b2 = some (.cells hz)) (k4 : hh.blk b4 = _) => decH_end (q := m - 1) (n := m - 1) (l := fV 0 0 0 0) (p := m - 6) (by omega) r1 r2 r3 r4 (by omega) hne rfl rfl rfl rfl hfh k2 k4
  have s4 := fun (hh : Heap) (hfh : Fit hh) (k2 : hh.blk b2 = some (.cells hz)) (k4 : hh.blk b4 = some (.cells [.int .u64 (rd 0 ((s.take 4).drop 2) : Nat), .int .u64 (rd 0 ((s.take 8).drop 4) : Nat), .int .u64 (rd 0 ((s.take 12).drop 8) : Nat), .int .u64 0])) => decH_step (q := m - 1) (n := m - 1) (i := 3) (a := 12) (v := 0) (sz := 8) (l := fV 0 0 0 0) (p := m - 6 + 1) (b2 := b2) (b4 := b4) (by omega) (by omega) rfl (show 8 ≤ 8 by decide) (by decide) (by decide) (by omega) (by omega) rfl hne (V := decHV (decHM s)) hfh k2 k4 s5
  have s3 := fun (hh : Heap) (hfh : Fit hh) (k2 : hh.blk b2 = some (.cells hz)) (k4 : hh.blk b4 = some (.cells [.int .u64 (rd 0 ((s.take 4).drop 2) : Nat), .int .u64 (rd 0 ((s.take 8).drop 4) : Nat), .int .u64 0, .int .u64 0])) => decH_step (q := m - 1) (n := m - 1) (i := 2) (a := 8) (v := 0) (sz := 4) (l := fV 0 0 0 0) (p := m - 6 + 1 + 1) (b2 := b2) (b4 := b4) (by omega) (by omega) rfl (show 6 ≤ 8 by decide) (by decide) (by decide) (by omega) (by omega) rfl hne (V := decHV (decHM s)) hfh k2 k4 s4
  have s2 := fun (hh : Heap) (hfh : Fit hh) (k2 : hh.blk b2 = some (.cells hz)) (k4 : hh.blk b4 = some (.cells [.int .u64 (rd 0 ((s.take 4).drop 2) : Nat), .int .u64 0, .int .u64 0, .int .u64 0])) => decH_step (q := m - 1) (n := m - 1) (i := 1) (a := 4) (v := 0) (sz := 4) (l := fV 0 0 0 0) (p := m - 6 + 1 + 1 + 1) (b2 := b2) (b4 := b4) (by omega) (by omega) rfl (show 4 ≤ 8 by decide) (by decide) (by decide) (by omega) (by omega) rfl hne (V := decHV (decHM s)) hfh k2 k4 s3
  obtain ⟨h', hf', e⟩ := decH_step (q := m - 1) (n := m - 1) (i := 0) (a := 2) (v := 0) (sz := 2) (l := fV 0 0 0 0) (p := m - 6 + 1 + 1 + 1 + 1) (b2 := b2) (b4 := b4) (by omega) (by omega) rfl (show 2 ≤ 8 by decide) (by decide) (by decide) (by omega) (by omega) rfl hne (V := decHV (decHM s)) hf3 hb2 hb4 s2
  refine ⟨h', hf', ?_⟩
  rw [t2_r124 (by omega)]
  have az : ∀ K, aggC [.int .i64 0, .int .u32 0, .int .u32 0, .int .i64 0] [] K = K (hV 0 0 0 0) := fun K => rfl
  rw [show m - 6 + 1 + 1 + 1 + 1 + 1 = m - 1 by omega] at e
  simp only [s124, allocC_e, lensC_s, cmC_int, g1, cnd_f, az]
  refine (clC_of e3).trans ?_
  exact e
 end
end Go.AM.T
set_option maxRecDepth 100000
set_option linter.unusedVariables false
set_option linter.unusedSimpArgs false
namespace Go.AM.T
open Go Go.AM
theorem encF_iff {st a n : Nat} {s : List UInt8} (h2 : 2 ≤ s.length) (hn : rd 0 (s.take 2) = n) (hl : 6 + n ≤ s.length) :
    encF st a ((s.take (6 + n)).drop 6) = s.take (6 + n) ↔ rd 0 ((s.take 6).drop 2) = fsum st a ((s.take (6 + n)).drop 6) := by
  have hbl : ((s.take (6 + n)).drop 6).length = n := by simp; omega
  have e1 : be 2 ((s.take (6 + n)).drop 6).length = s.take 2 := by rw [hbl, ← hn]; exact be_rd 2 _ (by simp; omega)
  have l4 : ((s.take 6).drop 2).length = 4 := by simp; omega
  have e2 : s.take (6 + n) = s.take 2 ++ (s.take 6).drop 2 ++ (s.take (6 + n)).drop 6 := by
    have a1 : s.take 2 = (s.take 6).take 2 := by rw [List.take_take]; rfl
    have a2 : s.take 6 = (s.take (6 + n)).take 6 := by rw [List.take_take, Nat.min_eq_left (by omega)]
    rw [a1, List.take_append_drop, a2, List.take_append_drop]
  have hf := fsum_lt st a ((s.take (6 + n)).drop 6)
  generalize (s.take (6 + n)).drop 6 = B at *
  unfold encF
  rw [e1]
  constructor
  · intro h
    rw [e2] at h
    have h3 : be 4 (fsum st a B) = (s.take 6).drop 2 := List.append_cancel_left (List.append_cancel_right h)
    rw [← h3]
    exact rd_be 4 _ (by simpa using hf)
  · intro h
    have : be 4 (fsum st a B) = (s.take 6).drop 2 := by rw [← h]; exact be_rd 4 _ l4
    rw [this]
    exact e2.symm
section
variable {m : Nat} {h : Heap}
theorem t2_rplace {a : Int} (hm : 2 ≤ m) (h : Heap) : run t2.get m 118 [.int .i64 a] h = some (.bool (okPlace a), h) := by
  rw [t2_r118 (by omega)]
  by_cases h1 : 1 ≤ a
  · by_cases h2 : a < 16 <;> simp [s118, okPlace, h1, h2]
  · simp [s118, okPlace, h1]
theorem t2_rdecode {st a : Nat} {s : List UInt8} (hm : 9 ≤ m) (hst : st < 4294967296) (ha : okPlace a = true) (hs : s.length < 60000) (h : Heap) :
    ∃ h', run t2.get m 81 [.int .u32 st, .int .i64 a, .str s] h = some (decR (decM st a s), h') := by
  rw [t2_r81 (by omega)]
  have c1 : ∀ G, run t2.get (m - 1) 118 [.int .i64 (a : Int)] G = some (.bool true, G) := fun G => by rw [t2_rplace (by omega), ha]
  have ha' : a < 16 := by simp only [okPlace, Bool.and_eq_true, decide_eq_true_eq] at ha; omega
  by_cases f1 : s.length < 2
  · have g1 : (s.length : Int) < 2 := by omega
    refine ⟨?_, ?_⟩
    rotate_left
    · simp (disch := omega) only [↓cmC_int, ↓cmC_str, ↓biC_add, ↓biC_sub, ↓biC_mul, ↓notC_b, ↓negC_i, ↓cviC_i, ↓cssC_s, ↓cnd_t, ↓cnd_f, ↓pickC_t, ↓pickC_f, ↓gdC_tt, ↓gdC_ff, ↓gdC_tf, ↓gdC_ft, ↓gdC_u, ↓elim_some, ↓exC_0, ↓exC_1, ↓exC_2, ↓exC_3, ↓lensC_s, ↓lenlC_s, ↓lenlC_m, ↓mnC_i, ↓mxC_i, ↓getN_0, ↓getN_s, ↓allocC_e, ↓nilC_p, ↓nilC_e, ↓nilC_f, ↓faC_p, ↓ldC_m, ↓ldK_some, ↓stC_m, ↓stK_some, ↓boxC_m, ↓aggC_m, ↓shC_shrN, ↓ixpC_p, ↓addSC_s, ↓iter_succ, ↓if_true, ↓if_false, ↓reduceIte, shC_shrN, ixpC_p, addSC_s, icmp_eq, icmp_ne, icmp_lt, icmp_le, icmp_gt, icmp_ge, decide_true, decide_false, Bool.not_true, Bool.not_false, Bool.true_and, Bool.and_true, Bool.false_and, Bool.and_false, wrap_i64, wrap_u64, wrap_u32, wrap_u8, cs_put, cs_add, Heap.next_put, Heap.next_add, cells_int, cells_str, cells_bool, cells_ptr, cells_sl, cells_ms, cells_nilp, cells_func, cells_agg, mk_t, mk_f, putA, putN, cond_true, cond_false, Nat.beq_refl, Option.map_some, List.length_cons, List.length_nil, List.drop_succ_cons, List.drop_zero, List.drop_nil, List.take_succ_cons, List.take_zero, List.take_nil, List.cons_append, List.nil_append, List.append_nil, Nat.zero_add, Nat.add_zero, Int.toNat_natCast, Int.toNat_zero, Int.toNat_one, ne_eq, not_true_eq_false, not_false_eq_true, and_self, and_true, true_and, eq_self, Nat.reduceAdd, Nat.reduceLeDiff, Nat.reduceMul, Nat.reduceSub, Nat.left_eq_add, Nat.add_eq_left, Nat.reduceEqDiff, Nat.one_ne_zero, s81, ↓clC_of (c1 _), g1]
      simp only [decM, f1, if_true, decR]
      rfl
  have g1 : ¬ ((s.length : Int) < 2) := by omega
  have b0 := s[0].toNat_lt
  have b1 := s[1].toNat_lt
  have t0 : ∀ K, ixtC (.str s) (.int .i64 0) K = K (.int .u8 (s[0].toNat : Int)) := fun K => ixtC_s (a := 0) (by decide) (show (0 : Int).toNat < s.length by simp only [Int.toNat_zero]; omega)
  have t1 : ∀ K, ixtC (.str s) (.int .i64 1) K = K (.int .u8 (s[1].toNat : Int)) := fun K => ixtC_s (a := 1) (by decide) (show (1 : Int).toNat < s.length by simp only [Int.toNat_one]; omega)
  have hn2 := rd2 (s := s) (by omega)
  have e2 : (s[0].toNat : Int) * (256 : Int) + (s[1].toNat : Int) = ((rd 0 (s.take 2) : Nat) : Int) := by rw [hn2]; omega
  have hnb : rd 0 (s.take 2) < 65536 := by rw [hn2]; omega
  clear hn2
  generalize hn : rd 0 (s.take 2) = n at *
  by_cases f2 : n = 0
  · have g2 : (n : Int) = 0 := by omega
    refine ⟨?_, ?_⟩
    rotate_left
    · simp (disch := omega) only [↓cmC_int, ↓cmC_str, ↓biC_add, ↓biC_sub, ↓biC_mul, ↓notC_b, ↓negC_i, ↓cviC_i, ↓cssC_s, ↓cnd_t, ↓cnd_f, ↓pickC_t, ↓pickC_f, ↓gdC_tt, ↓gdC_ff, ↓gdC_tf, ↓gdC_ft, ↓gdC_u, ↓elim_some, ↓exC_0, ↓exC_1, ↓exC_2, ↓exC_3, ↓lensC_s, ↓lenlC_s, ↓lenlC_m, ↓mnC_i, ↓mxC_i, ↓getN_0, ↓getN_s, ↓allocC_e, ↓nilC_p, ↓nilC_e, ↓nilC_f, ↓faC_p, ↓ldC_m, ↓ldK_some, ↓stC_m, ↓stK_some, ↓boxC_m, ↓aggC_m, ↓shC_shrN, ↓ixpC_p, ↓addSC_s, ↓iter_succ, ↓if_true, ↓if_false, ↓reduceIte, shC_shrN, ixpC_p, addSC_s, icmp_eq, icmp_ne, icmp_lt, icmp_le, icmp_gt, icmp_ge, decide_true, decide_false, Bool.not_true, Bool.not_false, Bool.true_and, Bool.and_true, Bool.false_and, Bool.and_false, wrap_i64, wrap_u64, wrap_u32, wrap_u8, cs_put, cs_add, Heap.next_put, Heap.next_add, cells_int, cells_str, cells_bool, cells_ptr, cells_sl, cells_ms, cells_nilp, cells_func, cells_agg, mk_t, mk_f, putA, putN, cond_true, cond_false, Nat.beq_refl, Option.map_some, List.length_cons, List.length_nil, List.drop_succ_cons, List.drop_zero, List.drop_nil, List.take_succ_cons, List.take_zero, List.take_nil, List.cons_append, List.nil_append, List.append_nil, Nat.zero_add, Nat.add_zero, Int.toNat_natCast, Int.toNat_zero, Int.toNat_one, ne_eq, not_true_eq_false, not_false_eq_true, and_self, and_true, true_and, eq_self, Nat.reduceAdd, Nat.reduceLeDiff, Nat.reduceMul, Nat.reduceSub, Nat.left_eq_add, Nat.add_eq_left, Nat.reduceEqDiff, Nat.one_ne_zero, s81, ↓clC_of (c1 _), g1, ↓t0, ↓t1, e2, g2]
      simp only [decM, f1, if_false, hn, f2, if_true, decR]
      rfl
  have g2 : ¬ ((n : Int) = 0) := by omega
  by_cases f3 : 774 < n
  · have g3 : (774 : Int) < (n : Int) := by omega
    refine ⟨?_, ?_⟩
    rotate_left
    · simp (disch := omega) only [↓cmC_int, ↓cmC_str, ↓biC_add, ↓biC_sub, ↓biC_mul, ↓notC_b, ↓negC_i, ↓cviC_i, ↓cssC_s, ↓cnd_t, ↓cnd_f, ↓pickC_t, ↓pickC_f, ↓gdC_tt, ↓gdC_ff, ↓gdC_tf, ↓gdC_ft, ↓gdC_u, ↓elim_some, ↓exC_0, ↓exC_1, ↓exC_2, ↓exC_3, ↓lensC_s, ↓lenlC_s, ↓lenlC_m, ↓mnC_i, ↓mxC_i, ↓getN_0, ↓getN_s, ↓allocC_e, ↓nilC_p, ↓nilC_e, ↓nilC_f, ↓faC_p, ↓ldC_m, ↓ldK_some, ↓stC_m, ↓stK_some, ↓boxC_m, ↓aggC_m, ↓shC_shrN, ↓ixpC_p, ↓addSC_s, ↓iter_succ, ↓if_true, ↓if_false, ↓reduceIte, shC_shrN, ixpC_p, addSC_s, icmp_eq, icmp_ne, icmp_lt, icmp_le, icmp_gt, icmp_ge, decide_true, decide_false, Bool.not_true, Bool.not_false, Bool.true_and, Bool.and_true, Bool.false_and, Bool.and_false, wrap_i64, wrap_u64, wrap_u32, wrap_u8, cs_put, cs_add, Heap.next_put, Heap.next_add, cells_int, cells_str, cells_bool, cells_ptr, cells_sl, cells_ms, cells_nilp, cells_func, cells_agg, mk_t, mk_f, putA, putN, cond_true, cond_false, Nat.beq_refl, Option.map_some, List.length_cons, List.length_nil, List.drop_succ_cons, List.drop_zero, List.drop_nil, List.take_succ_cons, List.take_zero, List.take_nil, List.cons_append, List.nil_append, List.append_nil, Nat.zero_add, Nat.add_zero, Int.toNat_natCast, Int.toNat_zero, Int.toNat_one, ne_eq, not_true_eq_false, not_false_eq_true, and_self, and_true, true_and, eq_self, Nat.reduceAdd, Nat.reduceLeDiff, Nat.reduceMul, Nat.reduceSub, Nat.left_eq_add, Nat.add_eq_left, Nat.reduceEqDiff, Nat.one_ne_zero, s81, ↓clC_of (c1 _), g1, ↓t0, ↓t1, e2, g2, g3]
      simp only [decM, f1, if_false, hn, f2, f3, if_true, decR]
      rfl
  have g3 : ¬ ((774 : Int) < (n : Int)) := by omega
  have e4 : (6 : Int) + (n : Int) = ((6 + n : Nat) : Int) := by omega
  by_cases f4 : s.length < 6 + n
  · have g4 : (s.length : Int) < ((6 + n : Nat) : Int) := by omega
    refine ⟨?_, ?_⟩
    rotate_left
    · simp (disch := omega) only [↓cmC_int, ↓cmC_str, ↓biC_add, ↓biC_sub, ↓biC_mul, ↓notC_b, ↓negC_i, ↓cviC_i, ↓cssC_s, ↓cnd_t, ↓cnd_f, ↓pickC_t, ↓pickC_f, ↓gdC_tt, ↓gdC_ff, ↓gdC_tf, ↓gdC_ft, ↓gdC_u, ↓elim_some, ↓exC_0, ↓exC_1, ↓exC_2, ↓exC_3, ↓lensC_s, ↓lenlC_s, ↓lenlC_m, ↓mnC_i, ↓mxC_i, ↓getN_0, ↓getN_s, ↓allocC_e, ↓nilC_p, ↓nilC_e, ↓nilC_f, ↓faC_p, ↓ldC_m, ↓ldK_some, ↓stC_m, ↓stK_some, ↓boxC_m, ↓aggC_m, ↓shC_shrN, ↓ixpC_p, ↓addSC_s, ↓iter_succ, ↓if_true, ↓if_false, ↓reduceIte, shC_shrN, ixpC_p, addSC_s, icmp_eq, icmp_ne, icmp_lt, icmp_le, icmp_gt, icmp_ge, decide_true, decide_false, Bool.not_true, Bool.not_false, Bool.true_and, Bool.and_true, Bool.false_and, Bool.and_false, wrap_i64, wrap_u64, wrap_u32, wrap_u8, cs_put, cs_add, Heap.next_put, Heap.next_add, cells_int, cells_str, cells_bool, cells_ptr, cells_sl, cells_ms, cells_nilp, cells_func, cells_agg, mk_t, mk_f, putA, putN, cond_true, cond_false, Nat.beq_refl, Option.map_some, List.length_cons, List.length_nil, List.drop_succ_cons, List.drop_zero, List.drop_nil, List.take_succ_cons, List.take_zero, List.take_nil, List.cons_append, List.nil_append, List.append_nil, Nat.zero_add, Nat.add_zero, Int.toNat_natCast, Int.toNat_zero, Int.toNat_one, ne_eq, not_true_eq_false, not_false_eq_true, and_self, and_true, true_and, eq_self, Nat.reduceAdd, Nat.reduceLeDiff, Nat.reduceMul, Nat.reduceSub, Nat.left_eq_add, Nat.add_eq_left, Nat.reduceEqDiff, Nat.one_ne_zero, s81, ↓clC_of (c1 _), g1, ↓t0, ↓t1, e2, g2, g3, e4, g4]
      simp only [decM, f1, if_false, hn, f2, f3, f4, if_true, decR]
      rfl
  have g4 : ¬ ((s.length : Int) < ((6 + n : Nat) : Int)) := by omega
  have hiff := encF_iff (st := st) (a := a) (s := s) (by omega) hn (by omega)
  generalize hb : (s.take (6 + n)).drop 6 = body at *
  have hbl : body.length = n := by rw [← hb]; simp; omega
  match body, hbl with
  | [], hbl => simp at hbl; omega
  | k :: p, hbl =>
    have hk := k.toNat_lt
    have hk6 : s[6]? = some k := by
      have : ((s.take (6 + n)).drop 6)[0]? = some k := by rw [hb]; rfl
      rw [List.getElem?_drop, List.getElem?_take] at this
      simpa [show 6 < 6 + n by omega] using this
    have hk6' : s[6]'(by omega) = k := by
      rw [List.getElem?_eq_getElem (by omega)] at hk6; exact Option.some.inj hk6
    have t6 : ∀ K, ixtC (.str s) (.int .i64 6) K = K (.int .u8 (k.toNat : Int)) := fun K => by
      rw [ixtC_s (a := 6) (by decide) (show (6 : Int).toNat < s.length by have : (6 : Int).toNat = 6 := rfl; omega)]
      have : s[(6 : Int).toNat]'(show (6 : Int).toNat < s.length by have : (6 : Int).toNat = 6 := rfl; omega) = k := hk6'
      rw [this]
    have hp : (s.take (6 + n)).drop 7 = p := by
      have : (s.take (6 + n)).drop 7 = ((s.take (6 + n)).drop 6).drop 1 := by rw [List.drop_drop]
      rw [this, hb]; rfl
    have t7 : ∀ K, slsC (.str s) (some (.int .i64 7)) (some (.int .i64 ((6 + n : Nat) : Int))) K = K (.str p) := fun K => by
      rw [← hp]; exact slsC_some_some (by decide) (by omega) (by omega)
    by_cases f5 : k = 0
    · have g5 : (k.toNat : Int) = 0 := by rw [f5]; rfl
      refine ⟨?_, ?_⟩
      rotate_left
      · simp (disch := omega) only [↓cmC_int, ↓cmC_str, ↓biC_add, ↓biC_sub, ↓biC_mul, ↓notC_b, ↓negC_i, ↓cviC_i, ↓cssC_s, ↓cnd_t, ↓cnd_f, ↓pickC_t, ↓pickC_f, ↓gdC_tt, ↓gdC_ff, ↓gdC_tf, ↓gdC_ft, ↓gdC_u, ↓elim_some, ↓exC_0, ↓exC_1, ↓exC_2, ↓exC_3, ↓lensC_s, ↓lenlC_s, ↓lenlC_m, ↓mnC_i, ↓mxC_i, ↓getN_0, ↓getN_s, ↓allocC_e, ↓nilC_p, ↓nilC_e, ↓nilC_f, ↓faC_p, ↓ldC_m, ↓ldK_some, ↓stC_m, ↓stK_some, ↓boxC_m, ↓aggC_m, ↓shC_shrN, ↓ixpC_p, ↓addSC_s, ↓iter_succ, ↓if_true, ↓if_false, ↓reduceIte, shC_shrN, ixpC_p, addSC_s, icmp_eq, icmp_ne, icmp_lt, icmp_le, icmp_gt, icmp_ge, decide_true, decide_false, Bool.not_true, Bool.not_false, Bool.true_and, Bool.and_true, Bool.false_and, Bool.and_false, wrap_i64, wrap_u64, wrap_u32, wrap_u8, cs_put, cs_add, Heap.next_put, Heap.next_add, cells_int, cells_str, cells_bool, cells_ptr, cells_sl, cells_ms, cells_nilp, cells_func, cells_agg, mk_t, mk_f, putA, putN, cond_true, cond_false, Nat.beq_refl, Option.map_some, List.length_cons, List.length_nil, List.drop_succ_cons, List.drop_zero, List.drop_nil, List.take_succ_cons, List.take_zero, List.take_nil, List.cons_append, List.nil_append, List.append_nil, Nat.zero_add, Nat.add_zero, Int.toNat_natCast, Int.toNat_zero, Int.toNat_one, ne_eq, not_true_eq_false, not_false_eq_true, and_self, and_true, true_and, eq_self, Nat.reduceAdd, Nat.reduceLeDiff, Nat.reduceMul, Nat.reduceSub, Nat.left_eq_add, Nat.add_eq_left, Nat.reduceEqDiff, Nat.one_ne_zero, s81, ↓clC_of (c1 _), g1, ↓t0, ↓t1, e2, g2, g3, e4, g4, ↓t6, ↓t7, g5]
        simp only [decM, f1, if_false, hn, f2, f3, f4, hb, List.head?_cons, Option.getD_some, f5, true_or, if_true, decR]
        rfl
    have g5 : ¬ ((k.toNat : Int) = 0) := by
      intro e
      apply f5
      apply UInt8.toNat_inj.1
      show k.toNat = 0
      omega
    have t8 : ∀ K, slsC (.str s) none (some (.int .i64 ((6 + n : Nat) : Int))) K = K (.str (s.take (6 + n))) := fun K => slsC_none_some (by omega) (by omega)
    have c2 : ∀ G, run t2.get (m - 1) 68 [.int .u32 (st : Int), .int .i64 (a : Int), .agg [.int .i64 (k.toNat : Int), .str p]] G = some (.str (encF st a (k :: p)), G) := fun G => by
      rw [t2_r68 (by omega)]
      have := p_renc (h := G) (st := st) (a := a) (k := k.toNat) (p := p) hst (by omega) (by omega) (by simp at hbl; omega)
      rwa [ofNat_toNat] at this
    by_cases f6 : rd 0 ((s.take 6).drop 2) = fsum st a (k :: p)
    · have g6 : decide (encF st a (k :: p) = s.take (6 + n)) = true := decide_eq_true (hiff.2 f6)
      refine ⟨?_, ?_⟩
      rotate_left
      · simp (disch := omega) only [↓cmC_int, ↓cmC_str, ↓biC_add, ↓biC_sub, ↓biC_mul, ↓notC_b, ↓negC_i, ↓cviC_i, ↓cssC_s, ↓cnd_t, ↓cnd_f, ↓pickC_t, ↓pickC_f, ↓gdC_tt, ↓gdC_ff, ↓gdC_tf, ↓gdC_ft, ↓gdC_u, ↓elim_some, ↓exC_0, ↓exC_1, ↓exC_2, ↓exC_3, ↓lensC_s, ↓lenlC_s, ↓lenlC_m, ↓mnC_i, ↓mxC_i, ↓getN_0, ↓getN_s, ↓allocC_e, ↓nilC_p, ↓nilC_e, ↓nilC_f, ↓faC_p, ↓ldC_m, ↓ldK_some, ↓stC_m, ↓stK_some, ↓boxC_m, ↓aggC_m, ↓shC_shrN, ↓ixpC_p, ↓addSC_s, ↓iter_succ, ↓if_true, ↓if_false, ↓reduceIte, shC_shrN, ixpC_p, addSC_s, icmp_eq, icmp_ne, icmp_lt, icmp_le, icmp_gt, icmp_ge, decide_true, decide_false, Bool.not_true, Bool.not_false, Bool.true_and, Bool.and_true, Bool.false_and, Bool.and_false, wrap_i64, wrap_u64, wrap_u32, wrap_u8, cs_put, cs_add, Heap.next_put, Heap.next_add, cells_int, cells_str, cells_bool, cells_ptr, cells_sl, cells_ms, cells_nilp, cells_func, cells_agg, mk_t, mk_f, putA, putN, cond_true, cond_false, Nat.beq_refl, Option.map_some, List.length_cons, List.length_nil, List.drop_succ_cons, List.drop_zero, List.drop_nil, List.take_succ_cons, List.take_zero, List.take_nil, List.cons_append, List.nil_append, List.append_nil, Nat.zero_add, Nat.add_zero, Int.toNat_natCast, Int.toNat_zero, Int.toNat_one, ne_eq, not_true_eq_false, not_false_eq_true, and_self, and_true, true_and, eq_self, Nat.reduceAdd, Nat.reduceLeDiff, Nat.reduceMul, Nat.reduceSub, Nat.left_eq_add, Nat.add_eq_left, Nat.reduceEqDiff, Nat.one_ne_zero, s81, ↓clC_of (c1 _), g1, ↓t0, ↓t1, e2, g2, g3, e4, g4, ↓t6, ↓t7, g5, ↓t8, ↓clC_of (c2 _), sne, g6]
        simp only [decM, f1, if_false, hn, f2, f3, f4, hb, List.head?_cons, Option.getD_some, f5, f6, ne_eq, not_true_eq_false, or_false, decR, List.drop_succ_cons, List.drop_zero]
        rfl
    · have g6 : decide (encF st a (k :: p) = s.take (6 + n)) = false := decide_eq_false (fun e => f6 (hiff.1 e))
      refine ⟨?_, ?_⟩
      rotate_left
      · simp (disch := omega) only [↓cmC_int, ↓cmC_str, ↓biC_add, ↓biC_sub, ↓biC_mul, ↓notC_b, ↓negC_i, ↓cviC_i, ↓cssC_s, ↓cnd_t, ↓cnd_f, ↓pickC_t, ↓pickC_f, ↓gdC_tt, ↓gdC_ff, ↓gdC_tf, ↓gdC_ft, ↓gdC_u, ↓elim_some, ↓exC_0, ↓exC_1, ↓exC_2, ↓exC_3, ↓lensC_s, ↓lenlC_s, ↓lenlC_m, ↓mnC_i, ↓mxC_i, ↓getN_0, ↓getN_s, ↓allocC_e, ↓nilC_p, ↓nilC_e, ↓nilC_f, ↓faC_p, ↓ldC_m, ↓ldK_some, ↓stC_m, ↓stK_some, ↓boxC_m, ↓aggC_m, ↓shC_shrN, ↓ixpC_p, ↓addSC_s, ↓iter_succ, ↓if_true, ↓if_false, ↓reduceIte, shC_shrN, ixpC_p, addSC_s, icmp_eq, icmp_ne, icmp_lt, icmp_le, icmp_gt, icmp_ge, decide_true, decide_false, Bool.not_true, Bool.not_false, Bool.true_and, Bool.and_true, Bool.false_and, Bool.and_false, wrap_i64, wrap_u64, wrap_u32, wrap_u8, cs_put, cs_add, Heap.next_put, Heap.next_add, cells_int, cells_str, cells_bool, cells_ptr, cells_sl, cells_ms, cells_nilp, cells_func, cells_agg, mk_t, mk_f, putA, putN, cond_true, cond_false, Nat.beq_refl, Option.map_some, List.length_cons, List.length_nil, List.drop_succ_cons, List.drop_zero, List.drop_nil, List.take_succ_cons, List.take_zero, List.take_nil, List.cons_append, List.nil_append, List.append_nil, Nat.zero_add, Nat.add_zero, Int.toNat_natCast, Int.toNat_zero, Int.toNat_one, ne_eq, not_true_eq_false, not_false_eq_true, and_self, and_true, true_and, eq_self, Nat.reduceAdd, Nat.reduceLeDiff, Nat.reduceMul, Nat.reduceSub, Nat.left_eq_add, Nat.add_eq_left, Nat.reduceEqDiff, Nat.one_ne_zero, s81, ↓clC_of (c1 _), g1, ↓t0, ↓t1, e2, g2, g3, e4, g4, ↓t6, ↓t7, g5, ↓t8, ↓clC_of (c2 _), sne, g6]
        simp only [decM, f1, if_false, hn, f2, f3, f4, hb, List.head?_cons, Option.getD_some, f5, f6, ne_eq, not_false_eq_true, or_true, if_true, decR]
        rfl
 end
end Go.AM.T
set_option maxRecDepth 100000
set_option linter.unusedVariables false
set_option linter.unusedSimpArgs false
namespace Go.AM.T
open Go Go.AM
section
variable {m : Nat} {h : Heap}
theorem t2_ropen {s : List UInt8} (hm : 4 ≤ m) (h : Heap) : ∃ h', run t2.get m 63 [.str s] h = some (openR (openM s), h') := by
  rw [t2_r63 (by omega)]
  by_cases f1 : s.length = 64
  · have g1 : (s.length : Int) = 64 := by omega
    have s3 : ∀ K, slsC (.str s) none (some (.int .i64 4)) K = K (.str (s.take 4)) := fun K => slsC_none_some (by decide) (by omega)
    have s4 : ∀ K, slsC (.str s) (some (.int .i64 4)) (some (.int .i64 6)) K = K (.str ((s.take 6).drop 4)) := fun K => slsC_some_some (by decide) (by decide) (by omega)
    have s5 : ∀ K, slsC (.str s) (some (.int .i64 6)) (some (.int .i64 58)) K = K (.str ((s.take 58).drop 6)) := fun K => slsC_some_some (by decide) (by decide) (by omega)
    have l4 : (s.take 4).length = 4 := by simp; omega
    have l2 : ((s.take 6).drop 4).length = 2 := by simp; omega
    have l5 : ((s.take 58).drop 6).length = 52 := by simp; omega
    have c1 : ∀ G, run t2.get (m - 1) 115 [.str (s.take 4)] G = some (.int .u64 (rd 0 (s.take 4) : Nat), G) := fun G => by rw [t2_r115 (by omega)]; exact p_rread (by omega)
    have c2 : ∀ G, run t2.get (m - 1) 115 [.str ((s.take 6).drop 4)] G = some (.int .u64 (rd 0 ((s.take 6).drop 4) : Nat), G) := fun G => by rw [t2_r115 (by omega)]; exact p_rread (by omega)
    have b1 := rd_lt' l4
    have b2 := rd_lt' l2
    have hiff := sealB_eq f1
    have hM : openM s = if s.take 6 ≠ s.drop 58 then none else if rd 0 ((s.take 6).drop 4) = 0 then none else some (rd 0 (s.take 4), rd 0 ((s.take 6).drop 4), (s.take 58).drop 6) := by
      unfold openM
      simp only [f1, ne_eq, not_true_eq_false, false_or]
    generalize rd 0 (s.take 4) = st at *
    generalize rd 0 ((s.take 6).drop 4) = ct at *
    have c3 : ∀ G, run t2.get (m - 1) 69 [.int .u32 (st : Int), .int .i64 (ct : Int), .str ((s.take 58).drop 6)] G = some (.str (sealB st ct ((s.take 58).drop 6)), G) := fun G => by rw [t2_r69 (by omega)]; exact p_rseal (by omega) (by omega) (by omega)
    by_cases f3 : ct = 0
    · have g3 : (ct : Int) = 0 := by omega
      have hN : openM s = none := by
        rw [hM]
        split
        · rfl
        · first | rfl | rw [if_pos f3]
      rw [hN]
      refine ⟨?_, ?_⟩
      rotate_left
      · simp (disch := omega) only [↓cmC_int, ↓cmC_str, ↓biC_add, ↓biC_sub, ↓biC_mul, ↓notC_b, ↓negC_i, ↓cviC_i, ↓cssC_s, ↓cnd_t, ↓cnd_f, ↓pickC_t, ↓pickC_f, ↓gdC_tt, ↓gdC_ff, ↓gdC_tf, ↓gdC_ft, ↓gdC_u, ↓elim_some, ↓exC_0, ↓exC_1, ↓exC_2, ↓exC_3, ↓lensC_s, ↓lenlC_s, ↓lenlC_m, ↓mnC_i, ↓mxC_i, ↓getN_0, ↓getN_s, ↓allocC_e, ↓nilC_p, ↓nilC_e, ↓nilC_f, ↓faC_p, ↓ldC_m, ↓ldK_some, ↓stC_m, ↓stK_some, ↓boxC_m, ↓aggC_m, ↓shC_shrN, ↓ixpC_p, ↓addSC_s, ↓iter_succ, ↓if_true, ↓if_false, ↓reduceIte, shC_shrN, ixpC_p, addSC_s, icmp_eq, icmp_ne, icmp_lt, icmp_le, icmp_gt, icmp_ge, decide_true, decide_false, Bool.not_true, Bool.not_false, Bool.true_and, Bool.and_true, Bool.false_and, Bool.and_false, wrap_i64, wrap_u64, wrap_u32, wrap_u8, cs_put, cs_add, Heap.next_put, Heap.next_add, cells_int, cells_str, cells_bool, cells_ptr, cells_sl, cells_ms, cells_nilp, cells_func, cells_agg, mk_t, mk_f, putA, putN, cond_true, cond_false, Nat.beq_refl, Option.map_some, List.length_cons, List.length_nil, List.drop_succ_cons, List.drop_zero, List.drop_nil, List.take_succ_cons, List.take_zero, List.take_nil, List.cons_append, List.nil_append, List.append_nil, Nat.zero_add, Nat.add_zero, Int.toNat_natCast, Int.toNat_zero, Int.toNat_one, ne_eq, not_true_eq_false, not_false_eq_true, and_self, and_true, true_and, eq_self, Nat.reduceAdd, Nat.reduceLeDiff, Nat.reduceMul, Nat.reduceSub, Nat.left_eq_add, Nat.add_eq_left, Nat.reduceEqDiff, Nat.one_ne_zero, s63, g1, ↓s3, ↓s4, ↓s5, ↓clC_of (c1 _), ↓clC_of (c2 _), g3]
        rfl
    have g3 : ¬ ((ct : Int) = 0) := by omega
    by_cases f2 : s.take 6 = s.drop 58
    · have g2 : decide (sealB st ct ((s.take 58).drop 6) = s) = true := decide_eq_true (hiff.2 f2)
      rw [hM, if_neg (by simp [f2]), if_neg f3]
      refine ⟨?_, ?_⟩
      rotate_left
      · simp (disch := omega) only [↓cmC_int, ↓cmC_str, ↓biC_add, ↓biC_sub, ↓biC_mul, ↓notC_b, ↓negC_i, ↓cviC_i, ↓cssC_s, ↓cnd_t, ↓cnd_f, ↓pickC_t, ↓pickC_f, ↓gdC_tt, ↓gdC_ff, ↓gdC_tf, ↓gdC_ft, ↓gdC_u, ↓elim_some, ↓exC_0, ↓exC_1, ↓exC_2, ↓exC_3, ↓lensC_s, ↓lenlC_s, ↓lenlC_m, ↓mnC_i, ↓mxC_i, ↓getN_0, ↓getN_s, ↓allocC_e, ↓nilC_p, ↓nilC_e, ↓nilC_f, ↓faC_p, ↓ldC_m, ↓ldK_some, ↓stC_m, ↓stK_some, ↓boxC_m, ↓aggC_m, ↓shC_shrN, ↓ixpC_p, ↓addSC_s, ↓iter_succ, ↓if_true, ↓if_false, ↓reduceIte, shC_shrN, ixpC_p, addSC_s, icmp_eq, icmp_ne, icmp_lt, icmp_le, icmp_gt, icmp_ge, decide_true, decide_false, Bool.not_true, Bool.not_false, Bool.true_and, Bool.and_true, Bool.false_and, Bool.and_false, wrap_i64, wrap_u64, wrap_u32, wrap_u8, cs_put, cs_add, Heap.next_put, Heap.next_add, cells_int, cells_str, cells_bool, cells_ptr, cells_sl, cells_ms, cells_nilp, cells_func, cells_agg, mk_t, mk_f, putA, putN, cond_true, cond_false, Nat.beq_refl, Option.map_some, List.length_cons, List.length_nil, List.drop_succ_cons, List.drop_zero, List.drop_nil, List.take_succ_cons, List.take_zero, List.take_nil, List.cons_append, List.nil_append, List.append_nil, Nat.zero_add, Nat.add_zero, Int.toNat_natCast, Int.toNat_zero, Int.toNat_one, ne_eq, not_true_eq_false, not_false_eq_true, and_self, and_true, true_and, eq_self, Nat.reduceAdd, Nat.reduceLeDiff, Nat.reduceMul, Nat.reduceSub, Nat.left_eq_add, Nat.add_eq_left, Nat.reduceEqDiff, Nat.one_ne_zero, s63, g1, ↓s3, ↓s4, ↓s5, ↓clC_of (c1 _), ↓clC_of (c2 _), g3, ↓clC_of (c3 _), sne, g2]
        rfl
    · have g2 : decide (sealB st ct ((s.take 58).drop 6) = s) = false := decide_eq_false (fun e => f2 (hiff.1 e))
      rw [hM, if_pos f2]
      refine ⟨?_, ?_⟩
      rotate_left
      · simp (disch := omega) only [↓cmC_int, ↓cmC_str, ↓biC_add, ↓biC_sub, ↓biC_mul, ↓notC_b, ↓negC_i, ↓cviC_i, ↓cssC_s, ↓cnd_t, ↓cnd_f, ↓pickC_t, ↓pickC_f, ↓gdC_tt, ↓gdC_ff, ↓gdC_tf, ↓gdC_ft, ↓gdC_u, ↓elim_some, ↓exC_0, ↓exC_1, ↓exC_2, ↓exC_3, ↓lensC_s, ↓lenlC_s, ↓lenlC_m, ↓mnC_i, ↓mxC_i, ↓getN_0, ↓getN_s, ↓allocC_e, ↓nilC_p, ↓nilC_e, ↓nilC_f, ↓faC_p, ↓ldC_m, ↓ldK_some, ↓stC_m, ↓stK_some, ↓boxC_m, ↓aggC_m, ↓shC_shrN, ↓ixpC_p, ↓addSC_s, ↓iter_succ, ↓if_true, ↓if_false, ↓reduceIte, shC_shrN, ixpC_p, addSC_s, icmp_eq, icmp_ne, icmp_lt, icmp_le, icmp_gt, icmp_ge, decide_true, decide_false, Bool.not_true, Bool.not_false, Bool.true_and, Bool.and_true, Bool.false_and, Bool.and_false, wrap_i64, wrap_u64, wrap_u32, wrap_u8, cs_put, cs_add, Heap.next_put, Heap.next_add, cells_int, cells_str, cells_bool, cells_ptr, cells_sl, cells_ms, cells_nilp, cells_func, cells_agg, mk_t, mk_f, putA, putN, cond_true, cond_false, Nat.beq_refl, Option.map_some, List.length_cons, List.length_nil, List.drop_succ_cons, List.drop_zero, List.drop_nil, List.take_succ_cons, List.take_zero, List.take_nil, List.cons_append, List.nil_append, List.append_nil, Nat.zero_add, Nat.add_zero, Int.toNat_natCast, Int.toNat_zero, Int.toNat_one, ne_eq, not_true_eq_false, not_false_eq_true, and_self, and_true, true_and, eq_self, Nat.reduceAdd, Nat.reduceLeDiff, Nat.reduceMul, Nat.reduceSub, Nat.left_eq_add, Nat.add_eq_left, Nat.reduceEqDiff, Nat.one_ne_zero, s63, g1, ↓s3, ↓s4, ↓s5, ↓clC_of (c1 _), ↓clC_of (c2 _), g3, ↓clC_of (c3 _), sne, g2]
        rfl
  · have g1 : ¬ ((s.length : Int) = 64) := by omega
    have e1 : openM s = none := by
      unfold openM
      rw [if_pos (.inl f1)]
    rw [e1]
    refine ⟨?_, ?_⟩
    rotate_left
    · simp (disch := omega) only [↓cmC_int, ↓cmC_str, ↓biC_add, ↓biC_sub, ↓biC_mul, ↓notC_b, ↓negC_i, ↓cviC_i, ↓cssC_s, ↓cnd_t, ↓cnd_f, ↓pickC_t, ↓pickC_f, ↓gdC_tt, ↓gdC_ff, ↓gdC_tf, ↓gdC_ft, ↓gdC_u, ↓elim_some, ↓exC_0, ↓exC_1, ↓exC_2, ↓exC_3, ↓lensC_s, ↓lenlC_s, ↓lenlC_m, ↓mnC_i, ↓mxC_i, ↓getN_0, ↓getN_s, ↓allocC_e, ↓nilC_p, ↓nilC_e, ↓nilC_f, ↓faC_p, ↓ldC_m, ↓ldK_some, ↓stC_m, ↓stK_some, ↓boxC_m, ↓aggC_m, ↓shC_shrN, ↓ixpC_p, ↓addSC_s, ↓iter_succ, ↓if_true, ↓if_false, ↓reduceIte, shC_shrN, ixpC_p, addSC_s, icmp_eq, icmp_ne, icmp_lt, icmp_le, icmp_gt, icmp_ge, decide_true, decide_false, Bool.not_true, Bool.not_false, Bool.true_and, Bool.and_true, Bool.false_and, Bool.and_false, wrap_i64, wrap_u64, wrap_u32, wrap_u8, cs_put, cs_add, Heap.next_put, Heap.next_add, cells_int, cells_str, cells_bool, cells_ptr, cells_sl, cells_ms, cells_nilp, cells_func, cells_agg, mk_t, mk_f, putA, putN, cond_true, cond_false, Nat.beq_refl, Option.map_some, List.length_cons, List.length_nil, List.drop_succ_cons, List.drop_zero, List.drop_nil, List.take_succ_cons, List.take_zero, List.take_nil, List.cons_append, List.nil_append, List.append_nil, Nat.zero_add, Nat.add_zero, Int.toNat_natCast, Int.toNat_zero, Int.toNat_one, ne_eq, not_true_eq_false, not_false_eq_true, and_self, and_true, true_and, eq_self, Nat.reduceAdd, Nat.reduceLeDiff, Nat.reduceMul, Nat.reduceSub, Nat.left_eq_add, Nat.add_eq_left, Nat.reduceEqDiff, Nat.one_ne_zero, s63, g1]
      rfl
theorem t2_rhdecode {s : List UInt8} (hm : 9 ≤ m) (h : Heap) : ∃ h', run t2.get m 80 [.str s] h = some (decHR (decHM s), h') := by
  rw [t2_r80 (by omega)]
  by_cases f1 : s.length < 32
  · have g1 : (s.length : Int) < 32 := by omega
    have hd : decHM s = (0, 0, 0, 0, 3) := if_pos f1
    rw [hd]
    refine ⟨?_, ?_⟩
    rotate_left
    · simp (disch := omega) only [↓cmC_int, ↓cmC_str, ↓biC_add, ↓biC_sub, ↓biC_mul, ↓notC_b, ↓negC_i, ↓cviC_i, ↓cssC_s, ↓cnd_t, ↓cnd_f, ↓pickC_t, ↓pickC_f, ↓gdC_tt, ↓gdC_ff, ↓gdC_tf, ↓gdC_ft, ↓gdC_u, ↓elim_some, ↓exC_0, ↓exC_1, ↓exC_2, ↓exC_3, ↓lensC_s, ↓lenlC_s, ↓lenlC_m, ↓mnC_i, ↓mxC_i, ↓getN_0, ↓getN_s, ↓allocC_e, ↓nilC_p, ↓nilC_e, ↓nilC_f, ↓faC_p, ↓ldC_m, ↓ldK_some, ↓stC_m, ↓stK_some, ↓boxC_m, ↓aggC_m, ↓shC_shrN, ↓ixpC_p, ↓addSC_s, ↓iter_succ, ↓if_true, ↓if_false, ↓reduceIte, shC_shrN, ixpC_p, addSC_s, icmp_eq, icmp_ne, icmp_lt, icmp_le, icmp_gt, icmp_ge, decide_true, decide_false, Bool.not_true, Bool.not_false, Bool.true_and, Bool.and_true, Bool.false_and, Bool.and_false, wrap_i64, wrap_u64, wrap_u32, wrap_u8, cs_put, cs_add, Heap.next_put, Heap.next_add, cells_int, cells_str, cells_bool, cells_ptr, cells_sl, cells_ms, cells_nilp, cells_func, cells_agg, mk_t, mk_f, putA, putN, cond_true, cond_false, Nat.beq_refl, Option.map_some, List.length_cons, List.length_nil, List.drop_succ_cons, List.drop_zero, List.drop_nil, List.take_succ_cons, List.take_zero, List.take_nil, List.cons_append, List.nil_append, List.append_nil, Nat.zero_add, Nat.add_zero, Int.toNat_natCast, Int.toNat_zero, Int.toNat_one, ne_eq, not_true_eq_false, not_false_eq_true, and_self, and_true, true_and, eq_self, Nat.reduceAdd, Nat.reduceLeDiff, Nat.reduceMul, Nat.reduceSub, Nat.left_eq_add, Nat.add_eq_left, Nat.reduceEqDiff, Nat.one_ne_zero, s80, g1]
      rfl
  have g1 : ¬ ((s.length : Int) < 32) := by omega
  have l1 : ((s.take 4).drop 2).length = 2 := by simp; omega
  have l2 : ((s.take 8).drop 4).length = 4 := by simp; omega
  have l3 : ((s.take 12).drop 8).length = 4 := by simp; omega
  have l4 : ((s.take 20).drop 12).length = 8 := by simp; omega
  have s1 : ∀ K, slsC (.str s) (some (.int .i64 2)) (some (.int .i64 4)) K = K (.str ((s.take 4).drop 2)) := fun K => slsC_some_some (by decide) (by decide) (by omega)
  have s2 : ∀ K, slsC (.str s) (some (.int .i64 4)) (some (.int .i64 8)) K = K (.str ((s.take 8).drop 4)) := fun K => slsC_some_some (by decide) (by decide) (by omega)
  have s3 : ∀ K, slsC (.str s) (some (.int .i64 8)) (some (.int .i64 12)) K = K (.str ((s.take 12).drop 8)) := fun K => slsC_some_some (by decide) (by decide) (by omega)
  have s4 : ∀ K, slsC (.str s) (some (.int .i64 12)) (some (.int .i64 20)) K = K (.str ((s.take 20).drop 12)) := fun K => slsC_some_some (by decide) (by decide) (by omega)
  have s5 : ∀ K, slsC (.str s) none (some (.int .i64 32)) K = K (.str (s.take 32)) := fun K => slsC_none_some (by decide) (by omega)
  have rdc : ∀ x : List UInt8, x.length ≤ 8 → ∀ G, run t2.get (m - 1) 115 [.str x] G = some (.int .u64 (rd 0 x : Nat), G) := fun x hx G => by rw [t2_r115 (by omega)]; exact p_rread hx
  have c1 := rdc _ (show ((s.take 4).drop 2).length ≤ 8 by omega)
  have c2 := rdc _ (show ((s.take 8).drop 4).length ≤ 8 by omega)
  have c3 := rdc _ (show ((s.take 12).drop 8).length ≤ 8 by omega)
  have c4 := rdc _ (show ((s.take 20).drop 12).length ≤ 8 by omega)
  have r1 := rd_lt' l1
  have r2 := rd_lt' l2
  have r3 := rd_lt' l3
  have r4 := rd_lt' l4
  have hM : decHM s = if 1099511627776 < rd 0 ((s.take 20).drop 12) then (0, 0, 0, 0, 4) else if mayH (rd 0 ((s.take 4).drop 2) : Nat) (rd 0 ((s.take 20).drop 12) : Nat) = true ∧ encH (rd 0 ((s.take 4).drop 2)) (rd 0 ((s.take 8).drop 4)) (rd 0 ((s.take 12).drop 8)) (rd 0 ((s.take 20).drop 12)) = s.take 32 then (rd 0 ((s.take 4).drop 2), rd 0 ((s.take 8).drop 4), rd 0 ((s.take 12).drop 8), rd 0 ((s.take 20).drop 12), 0) else (0, 0, 0, 0, 4) := by
    unfold decHM
    rw [if_neg (by omega)]
  generalize rd 0 ((s.take 4).drop 2) = log at *
  generalize rd 0 ((s.take 8).drop 4) = gen at *
  generalize rd 0 ((s.take 12).drop 8) = st at *
  generalize rd 0 ((s.take 20).drop 12) = base at *
  by_cases f2 : 1099511627776 < base
  · have g2 : (1099511627776 : Int) < (base : Int) := by omega
    rw [hM, if_pos f2]
    refine ⟨?_, ?_⟩
    rotate_left
    · simp (disch := omega) only [↓cmC_int, ↓cmC_str, ↓biC_add, ↓biC_sub, ↓biC_mul, ↓notC_b, ↓negC_i, ↓cviC_i, ↓cssC_s, ↓cnd_t, ↓cnd_f, ↓pickC_t, ↓pickC_f, ↓gdC_tt, ↓gdC_ff, ↓gdC_tf, ↓gdC_ft, ↓gdC_u, ↓elim_some, ↓exC_0, ↓exC_1, ↓exC_2, ↓exC_3, ↓lensC_s, ↓lenlC_s, ↓lenlC_m, ↓mnC_i, ↓mxC_i, ↓getN_0, ↓getN_s, ↓allocC_e, ↓nilC_p, ↓nilC_e, ↓nilC_f, ↓faC_p, ↓ldC_m, ↓ldK_some, ↓stC_m, ↓stK_some, ↓boxC_m, ↓aggC_m, ↓shC_shrN, ↓ixpC_p, ↓addSC_s, ↓iter_succ, ↓if_true, ↓if_false, ↓reduceIte, shC_shrN, ixpC_p, addSC_s, icmp_eq, icmp_ne, icmp_lt, icmp_le, icmp_gt, icmp_ge, decide_true, decide_false, Bool.not_true, Bool.not_false, Bool.true_and, Bool.and_true, Bool.false_and, Bool.and_false, wrap_i64, wrap_u64, wrap_u32, wrap_u8, cs_put, cs_add, Heap.next_put, Heap.next_add, cells_int, cells_str, cells_bool, cells_ptr, cells_sl, cells_ms, cells_nilp, cells_func, cells_agg, mk_t, mk_f, putA, putN, cond_true, cond_false, Nat.beq_refl, Option.map_some, List.length_cons, List.length_nil, List.drop_succ_cons, List.drop_zero, List.drop_nil, List.take_succ_cons, List.take_zero, List.take_nil, List.cons_append, List.nil_append, List.append_nil, Nat.zero_add, Nat.add_zero, Int.toNat_natCast, Int.toNat_zero, Int.toNat_one, ne_eq, not_true_eq_false, not_false_eq_true, and_self, and_true, true_and, eq_self, Nat.reduceAdd, Nat.reduceLeDiff, Nat.reduceMul, Nat.reduceSub, Nat.left_eq_add, Nat.add_eq_left, Nat.reduceEqDiff, Nat.one_ne_zero, s80, g1, ↓s4, ↓clC_of (c4 _), g2]
      rfl
  have g2 : ¬ ((1099511627776 : Int) < (base : Int)) := by omega
  have cm : ∀ G, run t2.get (m - 1) 12 [.agg [.int .i64 (log : Int), .int .u32 (gen : Int), .int .u32 (st : Int), .int .i64 (base : Int)]] G = some (.bool (mayH log base), G) := fun G => by rw [t2_r12 (by omega)]; exact p_may
  rw [hM, if_neg f2]
  cases f3 : mayH log base with
  | false =>
    rw [f3] at cm
    rw [if_neg (by simp)]
    refine ⟨?_, ?_⟩
    rotate_left
    · simp (disch := omega) only [↓cmC_int, ↓cmC_str, ↓biC_add, ↓biC_sub, ↓biC_mul, ↓notC_b, ↓negC_i, ↓cviC_i, ↓cssC_s, ↓cnd_t, ↓cnd_f, ↓pickC_t, ↓pickC_f, ↓gdC_tt, ↓gdC_ff, ↓gdC_tf, ↓gdC_ft, ↓gdC_u, ↓elim_some, ↓exC_0, ↓exC_1, ↓exC_2, ↓exC_3, ↓lensC_s, ↓lenlC_s, ↓lenlC_m, ↓mnC_i, ↓mxC_i, ↓getN_0, ↓getN_s, ↓allocC_e, ↓nilC_p, ↓nilC_e, ↓nilC_f, ↓faC_p, ↓ldC_m, ↓ldK_some, ↓stC_m, ↓stK_some, ↓boxC_m, ↓aggC_m, ↓shC_shrN, ↓ixpC_p, ↓addSC_s, ↓iter_succ, ↓if_true, ↓if_false, ↓reduceIte, shC_shrN, ixpC_p, addSC_s, icmp_eq, icmp_ne, icmp_lt, icmp_le, icmp_gt, icmp_ge, decide_true, decide_false, Bool.not_true, Bool.not_false, Bool.true_and, Bool.and_true, Bool.false_and, Bool.and_false, wrap_i64, wrap_u64, wrap_u32, wrap_u8, cs_put, cs_add, Heap.next_put, Heap.next_add, cells_int, cells_str, cells_bool, cells_ptr, cells_sl, cells_ms, cells_nilp, cells_func, cells_agg, mk_t, mk_f, putA, putN, cond_true, cond_false, Nat.beq_refl, Option.map_some, List.length_cons, List.length_nil, List.drop_succ_cons, List.drop_zero, List.drop_nil, List.take_succ_cons, List.take_zero, List.take_nil, List.cons_append, List.nil_append, List.append_nil, Nat.zero_add, Nat.add_zero, Int.toNat_natCast, Int.toNat_zero, Int.toNat_one, ne_eq, not_true_eq_false, not_false_eq_true, and_self, and_true, true_and, eq_self, Nat.reduceAdd, Nat.reduceLeDiff, Nat.reduceMul, Nat.reduceSub, Nat.left_eq_add, Nat.add_eq_left, Nat.reduceEqDiff, Nat.one_ne_zero, s80, g1, ↓s1, ↓s2, ↓s3, ↓s4, ↓clC_of (c1 _), ↓clC_of (c2 _), ↓clC_of (c3 _), ↓clC_of (c4 _), g2, ↓clC_of (cm _)]
      rfl
  | true =>
    rw [f3] at cm
    have ce : ∀ G, run t2.get (m - 1) 66 [.agg [.int .i64 (log : Int), .int .u32 (gen : Int), .int .u32 (st : Int), .int .i64 (base : Int)]] G = some (.str (encH log gen st base), G) := fun G => by rw [t2_r66 (by omega)]; exact p_rhenc (by omega) (by omega) (by omega) (by omega)
    by_cases f4 : encH log gen st base = s.take 32
    · have g4 : decide (encH log gen st base = s.take 32) = true := decide_eq_true f4
      rw [if_pos ⟨rfl, f4⟩]
      refine ⟨?_, ?_⟩
      rotate_left
      · simp (disch := omega) only [↓cmC_int, ↓cmC_str, ↓biC_add, ↓biC_sub, ↓biC_mul, ↓notC_b, ↓negC_i, ↓cviC_i, ↓cssC_s, ↓cnd_t, ↓cnd_f, ↓pickC_t, ↓pickC_f, ↓gdC_tt, ↓gdC_ff, ↓gdC_tf, ↓gdC_ft, ↓gdC_u, ↓elim_some, ↓exC_0, ↓exC_1, ↓exC_2, ↓exC_3, ↓lensC_s, ↓lenlC_s, ↓lenlC_m, ↓mnC_i, ↓mxC_i, ↓getN_0, ↓getN_s, ↓allocC_e, ↓nilC_p, ↓nilC_e, ↓nilC_f, ↓faC_p, ↓ldC_m, ↓ldK_some, ↓stC_m, ↓stK_some, ↓boxC_m, ↓aggC_m, ↓shC_shrN, ↓ixpC_p, ↓addSC_s, ↓iter_succ, ↓if_true, ↓if_false, ↓reduceIte, shC_shrN, ixpC_p, addSC_s, icmp_eq, icmp_ne, icmp_lt, icmp_le, icmp_gt, icmp_ge, decide_true, decide_false, Bool.not_true, Bool.not_false, Bool.true_and, Bool.and_true, Bool.false_and, Bool.and_false, wrap_i64, wrap_u64, wrap_u32, wrap_u8, cs_put, cs_add, Heap.next_put, Heap.next_add, cells_int, cells_str, cells_bool, cells_ptr, cells_sl, cells_ms, cells_nilp, cells_func, cells_agg, mk_t, mk_f, putA, putN, cond_true, cond_false, Nat.beq_refl, Option.map_some, List.length_cons, List.length_nil, List.drop_succ_cons, List.drop_zero, List.drop_nil, List.take_succ_cons, List.take_zero, List.take_nil, List.cons_append, List.nil_append, List.append_nil, Nat.zero_add, Nat.add_zero, Int.toNat_natCast, Int.toNat_zero, Int.toNat_one, ne_eq, not_true_eq_false, not_false_eq_true, and_self, and_true, true_and, eq_self, Nat.reduceAdd, Nat.reduceLeDiff, Nat.reduceMul, Nat.reduceSub, Nat.left_eq_add, Nat.add_eq_left, Nat.reduceEqDiff, Nat.one_ne_zero, s80, g1, ↓s1, ↓s2, ↓s3, ↓s4, ↓s5, ↓clC_of (c1 _), ↓clC_of (c2 _), ↓clC_of (c3 _), ↓clC_of (c4 _), g2, ↓clC_of (cm _), ↓clC_of (ce _), sne, g4]
        rfl
    · have g4 : decide (encH log gen st base = s.take 32) = false := decide_eq_false f4
      rw [if_neg (fun h => f4 h.2)]
      refine ⟨?_, ?_⟩
      rotate_left
      · simp (disch := omega) only [↓cmC_int, ↓cmC_str, ↓biC_add, ↓biC_sub, ↓biC_mul, ↓notC_b, ↓negC_i, ↓cviC_i, ↓cssC_s, ↓cnd_t, ↓cnd_f, ↓pickC_t, ↓pickC_f, ↓gdC_tt, ↓gdC_ff, ↓gdC_tf, ↓gdC_ft, ↓gdC_u, ↓elim_some, ↓exC_0, ↓exC_1, ↓exC_2, ↓exC_3, ↓lensC_s, ↓lenlC_s, ↓lenlC_m, ↓mnC_i, ↓mxC_i, ↓getN_0, ↓getN_s, ↓allocC_e, ↓nilC_p, ↓nilC_e, ↓nilC_f, ↓faC_p, ↓ldC_m, ↓ldK_some, ↓stC_m, ↓stK_some, ↓boxC_m, ↓aggC_m, ↓shC_shrN, ↓ixpC_p, ↓addSC_s, ↓iter_succ, ↓if_true, ↓if_false, ↓reduceIte, shC_shrN, ixpC_p, addSC_s, icmp_eq, icmp_ne, icmp_lt, icmp_le, icmp_gt, icmp_ge, decide_true, decide_false, Bool.not_true, Bool.not_false, Bool.true_and, Bool.and_true, Bool.false_and, Bool.and_false, wrap_i64, wrap_u64, wrap_u32, wrap_u8, cs_put, cs_add, Heap.next_put, Heap.next_add, cells_int, cells_str, cells_bool, cells_ptr, cells_sl, cells_ms, cells_nilp, cells_func, cells_agg, mk_t, mk_f, putA, putN, cond_true, cond_false, Nat.beq_refl, Option.map_some, List.length_cons, List.length_nil, List.drop_succ_cons, List.drop_zero, List.drop_nil, List.take_succ_cons, List.take_zero, List.take_nil, List.cons_append, List.nil_append, List.append_nil, Nat.zero_add, Nat.add_zero, Int.toNat_natCast, Int.toNat_zero, Int.toNat_one, ne_eq, not_true_eq_false, not_false_eq_true, and_self, and_true, true_and, eq_self, Nat.reduceAdd, Nat.reduceLeDiff, Nat.reduceMul, Nat.reduceSub, Nat.left_eq_add, Nat.add_eq_left, Nat.reduceEqDiff, Nat.one_ne_zero, s80, g1, ↓s1, ↓s2, ↓s3, ↓s4, ↓s5, ↓clC_of (c1 _), ↓clC_of (c2 _), ↓clC_of (c3 _), ↓clC_of (c4 _), g2, ↓clC_of (cm _), ↓clC_of (ce _), sne, g4]
        rfl
 end
end Go.AM.T
set_option maxRecDepth 100000
set_option linter.unusedVariables false
set_option linter.unusedSimpArgs false
namespace Go.AM.T
open Go Go.AM
def gHDec : List Val → Option Val
  | [.str s] => bif decide (s.length < 60000) then some (decHV (decHM s)) else none
  | _ => none
def gRDec : List Val → Option Val
  | [.int .u32 st, .int .i64 a, .str s] => bif u32B st && okPlace a && decide (s.length < 60000) then some (decR (decM st.toNat a.toNat s)) else none
  | _ => none
def gRHDec : List Val → Option Val
  | [.str s] => some (decHR (decHM s))
  | _ => none
def gROpen : List Val → Option Val
  | [.str s] => some (openR (openM s))
  | _ => none
section
variable {h : Heap}
theorem p_hdec {s : List UInt8} (h5 : s.length < 60000) : sumF gHDec [.str s] h = some (decHV (decHM s), h) := by
  refine sumF_of (ys := [.str s]) rfl ?_
  rw [gHDec.eq_1]; exact cond_of (decide_eq_true h5)
theorem p_rdec {st a : Nat} {s : List UInt8} (h1 : st < 4294967296) (h4 : okPlace a = true) (h5 : s.length < 60000) : sumF gRDec [.int .u32 st, .int .i64 a, .str s] h = some (decR (decM st a s), h) := by
  refine sumF_of (ys := [.int .u32 st, .int .i64 a, .str s]) rfl ?_
  rw [gRDec.eq_1, Int.toNat_natCast, Int.toNat_natCast]
  exact cond_of (and2 (and2 (u32B_nat h1) h4) (decide_eq_true h5))
theorem p_rhdec {s : List UInt8} : sumF gRHDec [.str s] h = some (decHR (decHM s), h) := sumF_of (ys := [.str s]) rfl rfl
theorem p_ropen {s : List UInt8} : sumF gROpen [.str s] h = some (openR (openM s), h) := sumF_of (ys := [.str s]) rfl rfl
 end
end Go.AM.T
