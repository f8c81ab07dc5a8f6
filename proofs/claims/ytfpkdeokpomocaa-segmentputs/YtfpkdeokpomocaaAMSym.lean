import Derived.Test.YtfpkdeokpomocaaAMMono
set_option linter.constructorNameAsVariable false
set_option linter.unusedVariables false
set_option linter.unusedSimpArgs false
set_option linter.unusedVariables false
set_option linter.unusedSimpArgs false
namespace Go.AM
open Go
theorem wrap_i64 {x : Int} (h1 : -9223372036854775808 ≤ x) (h2 : x < 9223372036854775808) : IntKind.i64.wrap x = x := by
  show (if (true && decide (x % 18446744073709551616 ≥ 9223372036854775808)) = true then x % 18446744073709551616 - 18446744073709551616 else x % 18446744073709551616) = x
  simp only [Bool.true_and, decide_eq_true_eq]
  split <;> omega
theorem wrap_u {k : IntKind} (hk : k.signed = false) (x : Int) : k.wrap x = x % 2 ^ k.bits := by
  simp [IntKind.wrap, hk]
theorem wrap_u64 {x : Int} (h1 : 0 ≤ x) (h2 : x < 18446744073709551616) : IntKind.u64.wrap x = x := by
  rw [wrap_u rfl]; simp only [IntKind.bits]; omega
theorem wrap_u32 {x : Int} (h1 : 0 ≤ x) (h2 : x < 4294967296) : IntKind.u32.wrap x = x := by
  rw [wrap_u rfl]; simp only [IntKind.bits]; omega
theorem wrap_u8 {x : Int} (h1 : 0 ≤ x) (h2 : x < 256) : IntKind.u8.wrap x = x := by
  rw [wrap_u rfl]; simp only [IntKind.bits]; omega
theorem wrap_u8' (x : Int) : IntKind.u8.wrap x = x % 256 := by rw [wrap_u rfl]; rfl
theorem wrap_u32' (x : Int) : IntKind.u32.wrap x = x % 4294967296 := by rw [wrap_u rfl]; rfl
theorem wrap_u64' (x : Int) : IntKind.u64.wrap x = x % 18446744073709551616 := by rw [wrap_u rfl]; rfl
section
variable {K : Val → R} {K2 : Val → Heap → R} {K0 : Heap → R} {h : Heap} {k : IntKind} {a b : Int}
@[simp] theorem kbeq (k : IntKind) : k.toNat.beq k.toNat = true := by cases k <;> rfl
@[simp] theorem cmC_int (op : COp) : cmC op (.int k a) (.int k b) K = K (.bool (icmp op a b)) := by simp [cmC]
@[simp] theorem cmC_str (op : COp) (a b : List UInt8) : cmC op (.str a) (.str b) K = K (.bool (scmp op a b)) := rfl
@[simp] theorem icmp_eq : icmp .eq a b = decide (a = b) := by simp only [icmp]; rw [Bool.eq_iff_iff]; simp
@[simp] theorem icmp_ne : icmp .ne a b = decide (a ≠ b) := by simp only [icmp]; rw [Bool.eq_iff_iff]; simp
@[simp] theorem icmp_lt : icmp .lt a b = decide (a < b) := rfl
@[simp] theorem icmp_le : icmp .le a b = decide (a ≤ b) := rfl
@[simp] theorem icmp_gt : icmp .gt a b = decide (b < a) := rfl
@[simp] theorem icmp_ge : icmp .ge a b = decide (b ≤ a) := rfl
@[simp] theorem biC_add : biC .add (.int k a) (.int k b) K = K (.int k (k.wrap (a + b))) := by simp [biC, iop]
@[simp] theorem biC_sub : biC .sub (.int k a) (.int k b) K = K (.int k (k.wrap (a - b))) := by simp [biC, iop]
@[simp] theorem biC_mul : biC .mul (.int k a) (.int k b) K = K (.int k (k.wrap (a * b))) := by simp [biC, iop]
theorem biC_quo (hb : b ≠ 0) : biC .quo (.int k a) (.int k b) K = K (.int k (k.wrap (a.tdiv b))) := by
  have : (b == 0) = false := by simp [hb]
  simp [biC, iop, this]
theorem biC_rem (hb : b ≠ 0) : biC .rem (.int k a) (.int k b) K = K (.int k (a.tmod b)) := by
  have : (b == 0) = false := by simp [hb]
  simp [biC, iop, this]
@[simp] theorem biC_and : biC .and (.int k a) (.int k b) K = K (.int k (k.wrap ((BitVec.ofInt k.bits a &&& BitVec.ofInt k.bits b).toNat))) := by simp [biC, iop]
@[simp] theorem biC_or : biC .or (.int k a) (.int k b) K = K (.int k (k.wrap ((BitVec.ofInt k.bits a ||| BitVec.ofInt k.bits b).toNat))) := by simp [biC, iop]
@[simp] theorem biC_xor : biC .xor (.int k a) (.int k b) K = K (.int k (k.wrap ((BitVec.ofInt k.bits a ^^^ BitVec.ofInt k.bits b).toNat))) := by simp [biC, iop]
theorem shC_shl {j : IntKind} (hb : 0 ≤ b) : shC .shl (.int k a) (.int j b) K = K (.int k (k.wrap (a * 2 ^ (min b.toNat k.bits)))) := by
  simp [shC, iop, show ¬ b < 0 by omega]
theorem shC_shr {j : IntKind} (hb : 0 ≤ b) : shC .shr (.int k a) (.int j b) K = K (.int k (a.fdiv (2 ^ (min b.toNat k.bits)))) := by
  simp [shC, iop, show ¬ b < 0 by omega]
@[simp] theorem notC_b (b : Bool) : notC (.bool b) K = K (.bool (!b)) := rfl
@[simp] theorem negC_i : negC (.int k a) K = K (.int k (k.wrap (0 - a))) := rfl
@[simp] theorem cviC_i (j : IntKind) : cviC j (.int k a) K = K (.int j (j.wrap a)) := rfl
@[simp] theorem cssC_s (s : List UInt8) : cssC (.str s) K = K (.str s) := rfl
@[simp] theorem cnd_t {t e : R} : cnd (.bool true) t e = t := rfl
@[simp] theorem cnd_f {t e : R} : cnd (.bool false) t e = e := rfl
theorem cnd_b (c : Bool) {t e : R} : cnd (.bool c) t e = bif c then t else e := by cases c <;> rfl
theorem cnd_d {p : Prop} [Decidable p] {t e : R} : cnd (.bool (decide p)) t e = if p then t else e := by
  by_cases h : p <;> simp [h]
@[simp] theorem pickC_t (a b : Val) : pickC (.bool true) a b K = K a := rfl
@[simp] theorem pickC_f (a b : Val) : pickC (.bool false) a b K = K b := rfl
@[simp] theorem gdC_tt {x : (Val → Heap → R) → R} : gdC (.bool true) true h x K2 = (x fun v h => some (v, h)).elim none (fun q => K2 q.1 q.2) := by
  simp only [gdC, BEq.rfl, cond_true]; cases x fun v h => some (v, h) <;> rfl
@[simp] theorem gdC_ff {x : (Val → Heap → R) → R} : gdC (.bool false) false h x K2 = (x fun v h => some (v, h)).elim none (fun q => K2 q.1 q.2) := by
  simp only [gdC, BEq.rfl, cond_true]; cases x fun v h => some (v, h) <;> rfl
@[simp] theorem gdC_tf {x : (Val → Heap → R) → R} : gdC (.bool true) false h x K2 = K2 (.tup []) h := rfl
@[simp] theorem gdC_ft {x : (Val → Heap → R) → R} : gdC (.bool false) true h x K2 = K2 (.tup []) h := rfl
@[simp] theorem gdC_u {x : (Val → Heap → R) → R} (b : Bool) : gdC (.tup []) b h x K2 = K2 (.tup []) h := rfl
@[simp] theorem elim_some {α : Type} {a : α} {f : α → R} : (some a).elim none f = f a := rfl
@[simp] theorem exC_0 (v : Val) (l : List Val) : exC 0 (.tup (v :: l)) K = K v := rfl
@[simp] theorem exC_1 (u v : Val) (l : List Val) : exC 1 (.tup (u :: v :: l)) K = K v := rfl
@[simp] theorem exC_2 (u v w : Val) (l : List Val) : exC 2 (.tup (u :: v :: w :: l)) K = K w := rfl
@[simp] theorem exC_3 (u v w x : Val) (l : List Val) : exC 3 (.tup (u :: v :: w :: x :: l)) K = K x := rfl
@[simp] theorem lensC_s (s : List UInt8) : lensC (.str s) K = K (.int .i64 s.length) := rfl
@[simp] theorem lenlC_s (w : Own) (z : Nat) (l : List Val) : lenlC (.sl w z l) K = K (.int .i64 l.length) := rfl
@[simp] theorem lenlC_m (b o n c z : Nat) : lenlC (.ms b o n c z) K = K (.int .i64 n) := rfl
@[simp] theorem mnC_i : mnC (.int k a) (.int k b) K = K (.int k (min a b)) := by
  simp only [mnC, kbeq, cond_true]
  congr 2
  by_cases h : b < a
  · simp [h]; omega
  · simp [h]; omega
@[simp] theorem mxC_i : mxC (.int k a) (.int k b) K = K (.int k (max a b)) := by
  simp only [mxC, kbeq, cond_true]
  congr 2
  by_cases h : b > a
  · simp [h]; omega
  · simp [h]; omega
theorem addSC_s (x y : List UInt8) (hl : x.length + y.length ≤ 4611686018427387904) : addSC (.str x) (.str y) K = K (.str (x ++ y)) := by simp [addSC, hl]
theorem takeN_eq : ∀ (n : Nat) (l : List Val), takeN n l = if n ≤ l.length then some (l.take n) else none
  | 0, l => by simp [takeN]
  | n + 1, [] => by simp [takeN]
  | n + 1, x :: l => by
    simp only [takeN, takeN_eq n l, List.length_cons, Nat.add_le_add_iff_right]
    split <;> simp
theorem dropN_eq : ∀ (n : Nat) (l : List Val), dropN n l = if n ≤ l.length then some (l.drop n) else none
  | 0, l => by simp [dropN]
  | n + 1, [] => by simp [dropN]
  | n + 1, x :: l => by
    simp only [dropN, dropN_eq n l, List.length_cons, Nat.add_le_add_iff_right, List.drop_succ_cons]
theorem nthN_eq : ∀ (n : Nat) (l : List Val), nthN n l = l[n]?
  | 0, [] => rfl
  | 0, x :: l => rfl
  | n + 1, [] => rfl
  | n + 1, x :: l => by simp [nthN, nthN_eq n l]
theorem putN_eq : ∀ (n : Nat) (xs l : List Val), n + xs.length ≤ l.length → putN n xs l = some (l.take n ++ xs ++ l.drop (n + xs.length))
  | 0, [], l, _ => by simp [putN]
  | 0, x :: xs, [], h => by simp at h
  | 0, x :: xs, y :: l, h => by
    have := putN_eq 0 xs l (by simpa using h)
    simp only [putN, this, Option.map_some]
    simp
  | n + 1, xs, [], h => by simp at h
  | n + 1, xs, y :: l, h => by
    have := putN_eq n xs l (by simp at h; omega)
    simp only [putN, this, Option.map_some]
    have e : n + 1 + xs.length = (n + xs.length) + 1 := by omega
    rw [e]; simp
theorem bnd_i {lo hi : Nat} (h1 : (lo : Int) ≤ a) (h2 : a ≤ (hi : Int)) : bnd lo hi (.int k a) = some a.toNat := by simp [bnd, h1, h2]
theorem slsC_none_some {s : List UInt8} (h1 : 0 ≤ b) (h2 : b ≤ s.length) : slsC (.str s) none (some (.int k b)) K = K (.str (s.take b.toNat)) := by
  simp [slsC, obnd, bnd_i (lo := 0) (by simpa using h1) h2, takeB_eq, dropB]
theorem slsC_some_none {s : List UInt8} (h1 : 0 ≤ a) (h2 : a ≤ s.length) : slsC (.str s) (some (.int k a)) none K = K (.str (s.drop a.toNat)) := by
  simp [slsC, obnd, bnd_i (lo := 0) (by simpa using h1) h2, takeB_eq, dropB_eq]
theorem slsC_some_some {s : List UInt8} {j : IntKind} (h1 : 0 ≤ a) (h2 : a ≤ b) (h3 : b ≤ s.length) : slsC (.str s) (some (.int k a)) (some (.int j b)) K = K (.str ((s.take b.toNat).drop a.toNat)) := by
  have : bnd 0 b.toNat (.int k a) = some a.toNat := bnd_i (by simpa using h1) (by omega)
  have h4 : bnd 0 s.length (.int j b) = some b.toNat := bnd_i (by simp; omega) h3
  simp [slsC, obnd, h4, takeB_eq, dropB_eq, this]
theorem ixtC_s {s : List UInt8} (h1 : 0 ≤ a) (h2 : a.toNat < s.length) : ixtC (.str s) (.int k a) K = K (.int .u8 (s[a.toNat].toNat : Int)) := by
  simp [ixtC, h1, nthB_eq, List.getElem?_eq_getElem h2]
@[simp] theorem iter_succ {n : Nat} {F : (List Val → Heap → R) → List Val → Heap → R} {vs : List Val} : iter (n + 1) F vs h = F (iter n F) vs h := rfl
@[simp] theorem getN_0 (v : Val) (l : List Val) : getN (v :: l) 0 = v := rfl
@[simp] theorem getN_s (v : Val) (l : List Val) (n : Nat) : getN (v :: l) (n + 1) = getN l n := rfl
@[simp] theorem allocC_e (cs : List Val) : allocC cs h K2 = K2 (.ptr h.next 0) (h.add (.cells cs)) := rfl
@[simp] theorem nilC_p (b o : Nat) : nilC (.ptr b o) K = K (.ptr b o) := rfl
@[simp] theorem nilC_e (cs : List Val) : nilC (.ep cs) K = K (.ep cs) := rfl
@[simp] theorem nilC_f (f : Nat) (cs : List Val) : nilC (.func f cs) K = K (.func f cs) := rfl
@[simp] theorem faC_p (b o n : Nat) : faC n (.ptr b o) K = K (.ptr b (o + n)) := rfl
theorem shC_shrN {j : IntKind} {a : Nat} (hb : 0 ≤ b) : shC .shr (.int k a) (.int j b) K = K (.int k (a / 2 ^ (min b.toNat k.bits) : Nat)) := by
  rw [shC_shr hb]
  congr 2
  rw [Int.fdiv_eq_ediv_of_nonneg _ (Int.pow_nonneg (by decide))]
  simp
theorem ixpC_p {n z b o : Nat} {j : IntKind} {a : Int} (h1 : 0 ≤ a) (h2 : a < n) : ixpC n z (.ptr b o) (.int j a) K = K (.ptr b (o + a.toNat * z)) := by simp [ixpC, h1, h2]
@[simp] theorem cells_int (k : IntKind) (a : Int) : cells (.int k a) = [.int k a] := rfl
@[simp] theorem cells_str (s : List UInt8) : cells (.str s) = [.str s] := rfl
@[simp] theorem cells_bool (b : Bool) : cells (.bool b) = [.bool b] := rfl
@[simp] theorem cells_ptr (b o : Nat) : cells (.ptr b o) = [.ptr b o] := rfl
@[simp] theorem cells_sl (w : Own) (z : Nat) (l : List Val) : cells (.sl w z l) = [.sl w z l] := rfl
@[simp] theorem cells_ms (b o n c z : Nat) : cells (.ms b o n c z) = [.ms b o n c z] := rfl
@[simp] theorem cells_nilp : cells .nilp = [.nilp] := rfl
@[simp] theorem cells_func (f : Nat) (l : List Val) : cells (.func f l) = [.func f l] := rfl
@[simp] theorem cells_agg (l : List Val) : cells (.agg l) = l := rfl
@[simp] theorem mk_t (l : List Val) : mk true l = .agg l := rfl
@[simp] theorem mk_f (v : Val) : mk false [v] = v := rfl
attribute [simp] Heap.next_put Heap.next_add
@[simp] theorem blk_put_same (x : Blk) (b : Nat) : (h.put b x).blk b = some x := by rw [Heap.blk_put, if_pos rfl]
@[simp] theorem blk_add_same (x : Blk) : (h.add x).blk h.next = some x := by rw [Heap.blk_add, if_pos rfl]
theorem blk_put_ne {b c : Nat} (x : Blk) (hn : c ≠ b) : (h.put b x).blk c = h.blk c := by rw [Heap.blk_put, if_neg hn]
theorem blk_add_ne {c : Nat} (x : Blk) (hn : c ≠ h.next) : (h.add x).blk c = h.blk c := by rw [Heap.blk_add, if_neg hn]
theorem ofNat_toNat (b : UInt8) : UInt8.ofNat b.toNat = b := UInt8.ofNat_toNat
@[simp] theorem byteOf_i (a : Int) : byteOf (.int .u8 a) = some (UInt8.ofNat a.toNat) := rfl
 end
end Go.AM
