import Derived.Test.YtfpkdeokpomocaaAMSym
set_option linter.constructorNameAsVariable false
set_option linter.unusedVariables false
set_option linter.unusedSimpArgs false
set_option linter.unusedVariables false
set_option linter.unusedSimpArgs false
namespace Go.AM
open Go
section
variable {K : Val → R} {K2 : Val → Heap → R} {K0 : Heap → R} {h : Heap} {k : IntKind}
theorem ofInt_nat (w a : Nat) : BitVec.ofInt w (a : Int) = BitVec.ofNat w a := by simp
theorem biC_xorN {a b : Nat} (hk : k.signed = false) (ha : a < 2 ^ k.bits) (hb : b < 2 ^ k.bits) : biC .xor (.int k a) (.int k b) K = K (.int k (a ^^^ b : Nat)) := by
  rw [biC_xor, wrap_u hk, ofInt_nat, ofInt_nat]
  congr 2
  simp only [BitVec.toNat_xor, BitVec.toNat_ofNat, Nat.mod_eq_of_lt ha, Nat.mod_eq_of_lt hb]
  have := Nat.mod_eq_of_lt (Nat.xor_lt_two_pow ha hb)
  exact_mod_cast this
theorem biC_andN {a b : Nat} (hk : k.signed = false) (ha : a < 2 ^ k.bits) (hb : b < 2 ^ k.bits) : biC .and (.int k a) (.int k b) K = K (.int k (a &&& b : Nat)) := by
  rw [biC_and, wrap_u hk, ofInt_nat, ofInt_nat]
  congr 2
  simp only [BitVec.toNat_and, BitVec.toNat_ofNat, Nat.mod_eq_of_lt ha, Nat.mod_eq_of_lt hb]
  have := Nat.mod_eq_of_lt (Nat.lt_of_le_of_lt Nat.and_le_left ha : a &&& b < 2 ^ k.bits)
  exact_mod_cast this
theorem biC_orN {a b : Nat} (hk : k.signed = false) (ha : a < 2 ^ k.bits) (hb : b < 2 ^ k.bits) : biC .or (.int k a) (.int k b) K = K (.int k (a ||| b : Nat)) := by
  rw [biC_or, wrap_u hk, ofInt_nat, ofInt_nat]
  congr 2
  simp only [BitVec.toNat_or, BitVec.toNat_ofNat, Nat.mod_eq_of_lt ha, Nat.mod_eq_of_lt hb]
  have := Nat.mod_eq_of_lt (Nat.or_lt_two_pow ha hb)
  exact_mod_cast this
theorem cplC_u32 {a : Nat} (ha : a < 4294967296) : cplC (.int .u32 a) K = K (.int .u32 (4294967295 - a : Nat)) := by
  simp only [cplC]
  rw [wrap_u rfl, ofInt_nat]
  congr 2
  have key : ∀ y : BitVec 32, y = BitVec.ofNat 32 a → (BitVec.allOnes 32 ^^^ y).toNat = 4294967295 - a := by
    intro y hy
    have : (BitVec.allOnes 32 ^^^ y) = ~~~ y := by rw [BitVec.not_def, BitVec.xor_comm, BitVec.xor_comm y]
    rw [this, BitVec.toNat_not, hy, BitVec.toNat_ofNat, Nat.mod_eq_of_lt (by simpa using ha)]
  have e2 := key (BitVec.ofNat 32 a) rfl
  have e3 : (BitVec.ofInt IntKind.u32.bits (if IntKind.u32.signed = true then -1 else IntKind.u32.max) ^^^ BitVec.ofNat IntKind.u32.bits a).toNat = 4294967295 - a := e2
  rw [e3]
  show ((4294967295 - a : Nat) : Int) % 4294967296 = _
  omega
theorem clC_of {call : Call} {f : Nat} {as : List Val} {v : Val} {h' : Heap} (e : call f as h = some (v, h')) : clC call f as h K2 = K2 v h' := by
  unfold clC; rw [e]
theorem ldC_p {g : Bool} {n b o : Nat} {l : List Val} (hb : h.blk b = some (.cells l)) (hl : o + n ≤ l.length) : ldC g n (.ptr b o) h K = K (mk g ((l.drop o).take n)) := by
  have : h.at b o n = some ((l.drop o).take n) := by
    simp only [Heap.at, hb, dropN_eq]
    rw [if_pos (by omega)]
    simp only [Option.bind_some, takeN_eq, List.length_drop]
    rw [if_pos (by omega)]
  simp only [ldC, this]
theorem ldC_e {g : Bool} {n : Nat} {l : List Val} (hl : n ≤ l.length) : ldC g n (.ep l) h K = K (mk g (l.take n)) := by
  simp only [ldC, takeN_eq, if_pos hl]
theorem stC_p {n b o : Nat} {x : Val} {l : List Val} (hb : h.blk b = some (.cells l)) (hx : (cells x).length = n) (hl : o + n ≤ l.length) : stC n (.ptr b o) x h K0 = K0 (h.put b (.cells (l.take o ++ cells x ++ l.drop (o + n)))) := by
  subst hx
  simp only [stC, Heap.set, hb, putN_eq o (cells x) l hl, Option.map_some]
  simp
theorem ixsC_sl {w : Own} {z : Nat} {l : List Val} {j : IntKind} {i : Nat} {v : Val} (hi : l[i]? = some v) : ixsC z (.sl w z l) (.int j i) K = K (.ep (cells v)) := by
  simp [ixsC, nthN_eq, hi]
theorem boxC_e {z : Nat} {v : Val} (hv : (cells v).length = z) : boxC z v h K2 = K2 (.ptr h.next 0) (h.add (.cells (cells v))) := by
  subst hv; simp [boxC]
theorem bslC_e {z : Nat} {vs : List Val} (hv : ∀ v ∈ vs, (cells v).length = z) : bslC z vs K = K (.sl .ex z vs) := by
  have : (vs.all fun v => (cells v).length.beq z) = true := by
    rw [List.all_eq_true]; intro v hm; simp [hv v hm]
  simp [bslC, this]
theorem cvsC_sl {w : Own} {z : Nat} {l : List Val} {s : List UInt8} (hs : bytesOf l = some s) : cvsC (.sl w z l) h K = K (.str s) := by
  simp [cvsC, hs]
theorem cvsC_ms {b o n c z : Nat} {l : List Val} {s : List UInt8} (hb : h.blk b = some (.cells l)) (hl : o + n ≤ l.length) (hs : bytesOf ((l.drop o).take n) = some s) : cvsC (.ms b o n c z) h K = K (.str s) := by
  have : h.at b o n = some ((l.drop o).take n) := by
    simp only [Heap.at, hb, dropN_eq]
    rw [if_pos (by omega)]
    simp only [Option.bind_some, takeN_eq, List.length_drop]
    rw [if_pos (by omega)]
  simp [cvsC, this, hs]
theorem slaC_p {n z b o : Nat} {lo hi : Option Val} {e a : Nat} (he : obnd 0 n n hi = some e) (ha : obnd 0 e 0 lo = some a) (hn : a ≠ n) : slaC n z (.ptr b o) lo hi K = K (.ms b (o + a * z) (e - a) (n - a) z) := by
  have : a.beq n = false := by
    cases h : a.beq n with
    | false => rfl
    | true => exact absurd (Nat.eq_of_beq_eq_true h) hn
  simp [slaC, he, ha, this]
theorem bytesOf_of (s : List UInt8) : bytesOf (ofBytes s) = some s := by
  induction s with
  | nil => rfl
  | cons b s ih => simp only [ofBytes, List.map_cons, bytesOf, byteOf_i] at ih ⊢; rw [ih]; simp
theorem ofBytes_append (a b : List UInt8) : ofBytes (a ++ b) = ofBytes a ++ ofBytes b := by simp [ofBytes]
theorem ofBytes_take (n : Nat) (a : List UInt8) : ofBytes (a.take n) = (ofBytes a).take n := by simp [ofBytes, List.map_take]
theorem ofBytes_drop (n : Nat) (a : List UInt8) : ofBytes (a.drop n) = (ofBytes a).drop n := by simp [ofBytes, List.map_drop]
@[simp] theorem ofBytes_len (a : List UInt8) : (ofBytes a).length = a.length := by simp [ofBytes]
theorem flat_ofBytes (s : List UInt8) : (ofBytes s).flatMap cells = ofBytes s := by
  induction s with
  | nil => rfl
  | cons b s ih => simp only [ofBytes, List.map_cons, List.flatMap_cons, cells_int] at ih ⊢; rw [ih]; rfl
theorem cpyC_str {b o n c : Nat} {s : List UInt8} {l : List Val} (hb : h.blk b = some (.cells l)) (hl : o + min s.length n ≤ l.length) : cpyC 1 (.ms b o n c 1) (.str s) h K2 = K2 (.int .i64 (min s.length n : Nat)) (h.put b (.cells (l.take o ++ ofBytes (s.take n) ++ l.drop (o + min s.length n)))) := by
  have e : ((ofBytes s).take n).flatMap cells = ofBytes (s.take n) := by rw [← ofBytes_take, flat_ofBytes]
  have e2 : (ofBytes (s.take n)).length = min s.length n := by simp [Nat.min_comm]
  simp only [cpyC, source, Nat.beq_refl, cond_true, e, Heap.set, hb]
  rw [putN_eq o _ l (by rw [e2]; exact hl), e2]
  simp
 end
end Go.AM
