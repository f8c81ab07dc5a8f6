import Derived.Test.YtfpkdeokpomocaaQS
import Derived.Test.YtfpkdeokpomocaaAMSym
import Derived.Test.YtfpkdeokpomocaaAMRow3
import Derived.Test.YtfpkdeokpomocaaAMSym2
import Derived.Test.YtfpkdeokpomocaaAMPrim
import Derived.Test.YtfpkdeokpomocaaAMSym4
import Derived.Test.YtfpkdeokpomocaaAMSym5
set_option linter.constructorNameAsVariable false
set_option linter.unusedVariables false
set_option linter.unusedSimpArgs false
set_option maxRecDepth 100000
set_option linter.unusedVariables false
set_option linter.unusedSimpArgs false
namespace Go.AM.T
open Go Go.AM
def t0 : TT := .node 155 (.node 134 (.node 116 (.leaf 115 F115) (.node 117 (.leaf 116 F116) (.leaf 117 F117))) (.node 135 (.leaf 134 F134) (.node 154 (.leaf 135 F135) (.leaf 154 F154)))) (.node 160 (.node 157 (.leaf 155 F155) (.node 159 (.leaf 157 F157) (.leaf 159 F159))) (.node 161 (.leaf 160 F160) (.node 171 (.leaf 161 F161) (.leaf 171 F171))))
theorem t0_115 : t0.get 115 = some F115 := rfl
theorem t0_116 : t0.get 116 = some F116 := rfl
theorem t0_117 : t0.get 117 = some F117 := rfl
theorem t0_134 : t0.get 134 = some F134 := rfl
theorem t0_135 : t0.get 135 = some F135 := rfl
theorem t0_154 : t0.get 154 = some F154 := rfl
theorem t0_155 : t0.get 155 = some F155 := rfl
theorem t0_157 : t0.get 157 = some F157 := rfl
theorem t0_159 : t0.get 159 = some F159 := rfl
theorem t0_160 : t0.get 160 = some F160 := rfl
theorem t0_161 : t0.get 161 = some F161 := rfl
theorem t0_171 : t0.get 171 = some F171 := rfl
theorem t0_r115 {m : Nat} (hm : 0 < m) (a0 : Val) (h : Heap) : run t0.get m 115 [a0] h = s115 (run t0.get (m - 1)) (m - 1) a0 h := by
  obtain ⟨m, rfl⟩ : ∃ q, m = q + 1 := ⟨m - 1, by omega⟩
  rw [run_succ t0_115, e115]; rfl
theorem t0_r116 {m : Nat} (hm : 0 < m) (a0 : Val) (a1 : Val) (h : Heap) : run t0.get m 116 [a0, a1] h = s116 (run t0.get (m - 1)) (m - 1) a0 a1 h := by
  obtain ⟨m, rfl⟩ : ∃ q, m = q + 1 := ⟨m - 1, by omega⟩
  rw [run_succ t0_116, e116]; rfl
theorem t0_r117 {m : Nat} (hm : 0 < m) (a0 : Val) (a1 : Val) (h : Heap) : run t0.get m 117 [a0, a1] h = s117 (run t0.get (m - 1)) (m - 1) a0 a1 h := by
  obtain ⟨m, rfl⟩ : ∃ q, m = q + 1 := ⟨m - 1, by omega⟩
  rw [run_succ t0_117, e117]; rfl
theorem t0_r134 {m : Nat} (hm : 0 < m) (a0 : Val) (a1 : Val) (h : Heap) : run t0.get m 134 [a0, a1] h = s134 (run t0.get (m - 1)) (m - 1) a0 a1 h := by
  obtain ⟨m, rfl⟩ : ∃ q, m = q + 1 := ⟨m - 1, by omega⟩
  rw [run_succ t0_134, e134]; rfl
theorem t0_r135 {m : Nat} (hm : 0 < m) (a0 : Val) (a1 : Val) (h : Heap) : run t0.get m 135 [a0, a1] h = s135 (run t0.get (m - 1)) (m - 1) a0 a1 h := by
  obtain ⟨m, rfl⟩ : ∃ q, m = q + 1 := ⟨m - 1, by omega⟩
  rw [run_succ t0_135, e135]; rfl
theorem t0_r154 {m : Nat} (hm : 0 < m) (a0 : Val) (h : Heap) : run t0.get m 154 [a0] h = s154 (run t0.get (m - 1)) (m - 1) a0 h := by
  obtain ⟨m, rfl⟩ : ∃ q, m = q + 1 := ⟨m - 1, by omega⟩
  rw [run_succ t0_154, e154]; rfl
theorem t0_r155 {m : Nat} (hm : 0 < m) (a0 : Val) (h : Heap) : run t0.get m 155 [a0] h = s155 (run t0.get (m - 1)) (m - 1) a0 h := by
  obtain ⟨m, rfl⟩ : ∃ q, m = q + 1 := ⟨m - 1, by omega⟩
  rw [run_succ t0_155, e155]; rfl
theorem t0_r157 {m : Nat} (hm : 0 < m) (a0 : Val) (h : Heap) : run t0.get m 157 [a0] h = s157 (run t0.get (m - 1)) (m - 1) a0 h := by
  obtain ⟨m, rfl⟩ : ∃ q, m = q + 1 := ⟨m - 1, by omega⟩
  rw [run_succ t0_157, e157]; rfl
theorem t0_r159 {m : Nat} (hm : 0 < m) (a0 : Val) (h : Heap) : run t0.get m 159 [a0] h = s159 (run t0.get (m - 1)) (m - 1) a0 h := by
  obtain ⟨m, rfl⟩ : ∃ q, m = q + 1 := ⟨m - 1, by omega⟩
  rw [run_succ t0_159, e159]; rfl
theorem t0_r160 {m : Nat} (hm : 0 < m) (a0 : Val) (a1 : Val) (h : Heap) : run t0.get m 160 [a0, a1] h = s160 (run t0.get (m - 1)) (m - 1) a0 a1 h := by
  obtain ⟨m, rfl⟩ : ∃ q, m = q + 1 := ⟨m - 1, by omega⟩
  rw [run_succ t0_160, e160]; rfl
theorem t0_r161 {m : Nat} (hm : 0 < m) (a0 : Val) (h : Heap) : run t0.get m 161 [a0] h = s161 (run t0.get (m - 1)) (m - 1) a0 h := by
  obtain ⟨m, rfl⟩ : ∃ q, m = q + 1 := ⟨m - 1, by omega⟩
  rw [run_succ t0_161, e161]; rfl
theorem t0_r171 {m : Nat} (hm : 0 < m) (a0 : Val) (a1 : Val) (h : Heap) : run t0.get m 171 [a0, a1] h = s171 (run t0.get (m - 1)) (m - 1) a0 a1 h := by
  obtain ⟨m, rfl⟩ : ∃ q, m = q + 1 := ⟨m - 1, by omega⟩
  rw [run_succ t0_171, e171]; rfl
def be : Nat → Nat → List UInt8
  | 0, _ => []
  | n + 1, v => be n (v / 256) ++ [UInt8.ofNat (v % 256)]
def rd (v : Nat) (s : List UInt8) : Nat := s.foldl (fun v b => 256 * v + b.toNat) v
def crcBit (v : Nat) : Nat := bif (v % 2).beq 1 then (v / 2) ^^^ 3988292384 else v / 2
def crcBits : Nat → Nat → Nat
  | 0, v => v
  | n + 1, v => crcBits n (crcBit v)
def crcReg (v : Nat) (s : List UInt8) : Nat := s.foldl (fun v b => crcBits 8 (v ^^^ b.toNat)) v
def crc (b : Nat) (s : List UInt8) : Nat := 4294967295 - crcReg (4294967295 - b) s
theorem crcBit_lt {v : Nat} (h : v < 4294967296) : crcBit v < 4294967296 := by
  unfold crcBit
  cases (v % 2).beq 1
  · simp; omega
  · exact Nat.xor_lt_two_pow (n := 32) (by omega) (by decide)
theorem crcBits_lt : ∀ (n : Nat) {v : Nat}, v < 4294967296 → crcBits n v < 4294967296
  | 0, _, h => h
  | n + 1, _, h => crcBits_lt n (crcBit_lt h)
theorem crcReg_lt : ∀ (s : List UInt8) {v : Nat}, v < 4294967296 → crcReg v s < 4294967296
  | [], _, h => h
  | b :: s, v, h => crcReg_lt s (crcBits_lt 8 (Nat.xor_lt_two_pow (n := 32) h (by have := b.toNat_lt; omega)))
theorem crcReg_append (v : Nat) (a b : List UInt8) : crcReg v (a ++ b) = crcReg (crcReg v a) b := by simp [crcReg]
theorem crc_lt (b : Nat) (s : List UInt8) : crc b s < 4294967296 := by unfold crc; omega
theorem be_len : ∀ (n v : Nat), (be n v).length = n
  | 0, _ => rfl
  | n + 1, v => by simp [be, be_len n]
theorem rd_lt (s : List UInt8) : ∀ (v n : Nat), v < 256 ^ n → rd v s < 256 ^ (n + s.length) := by
  induction s with
  | nil => intro v n h; exact h
  | cons b s ih =>
    intro v n h
    have := ih (256 * v + b.toNat) (n + 1) (by have := b.toNat_lt; rw [Nat.pow_succ]; omega)
    simpa [rd, Nat.add_assoc, Nat.add_comm 1] using this
end Go.AM.T
set_option maxRecDepth 100000
set_option linter.unusedVariables false
set_option linter.unusedSimpArgs false
namespace Go.AM.T
open Go Go.AM
theorem crcBit_eq (v : Nat) : crcBit v = if v % 2 = 1 then (v / 2) ^^^ 3988292384 else v / 2 := by
  unfold crcBit
  by_cases h : v % 2 = 1
  · rw [if_pos h, h]; rfl
  · have : v % 2 = 0 := by omega
    rw [if_neg h, this]; rfl
theorem t0_shifted {m v : Nat} (hm : 2 ≤ m) (hv : v < 4294967296) (h : Heap) : run t0.get m 154 [.int .u32 v] h = some (.int .u32 (crcBit v : Nat), h) := by
  rw [t0_r154 (by omega)]
  have e1 : (v : Int).tmod 2 = ((v % 2 : Nat) : Int) := by rw [Int.tmod_eq_emod_of_nonneg (by omega)]; omega
  have e2 : (v : Int).tdiv 2 = ((v / 2 : Nat) : Int) := by rw [Int.tdiv_eq_ediv_of_nonneg (by omega)]; omega
  have e3 : IntKind.u32.wrap ((v / 2 : Nat) : Int) = ((v / 2 : Nat) : Int) := wrap_u32 (by omega) (by omega)
  have e4 : ∀ K, biC .xor (.int .u32 ((v / 2 : Nat) : Int)) (.int .u32 (3988292384 : Int)) K = K (.int .u32 ((v / 2) ^^^ 3988292384 : Nat)) := fun K =>
    biC_xorN (k := .u32) (a := v / 2) (b := 3988292384) rfl (by simp only [IntKind.bits]; omega) (by decide)
  simp only [s154, biC_rem (show (2 : Int) ≠ 0 by decide), biC_quo (show (2 : Int) ≠ 0 by decide), cmC_int, icmp_eq, cnd_d, e1, e2, e3, e4, crcBit_eq]
  by_cases hp : v % 2 = 1
  · simp [hp]
  · have : v % 2 = 0 := by omega
    simp [this]
theorem step_bit {v : Nat} (hv : v < 4294967296) : (v / 2) ^^^ ((if v % 2 = 1 then 4294967295 else 0) &&& 3988292384) = crcBit v := by
  rw [crcBit_eq]
  by_cases hp : v % 2 = 1
  · simp [hp]
  · have : v % 2 = 0 := by omega
    simp [this]
theorem loop_step (call : Call) (n : Nat) (h : Heap) : ∀ (k i : Nat), i + k = 8 → ∀ (m : Nat), k < m → ∀ v : Nat, v < 4294967296 →
    iter m (fun again0 xs h => s171_l0 call n again0 (getN xs 0) (getN xs 1) h) [.int .u32 v, .int .i64 i] h = some (.int .u32 (crcBits k v : Nat), h)
  | 0, i, hi, m, hm, v, hv => by
    obtain ⟨m, rfl⟩ : ∃ q, m = q + 1 := ⟨m - 1, by omega⟩
    have : i = 8 := by omega
    subst this
    simp [s171_l0, crcBits]
  | k + 1, i, hi, m, hm, v, hv => by
    obtain ⟨m, rfl⟩ : ∃ q, m = q + 1 := ⟨m - 1, by omega⟩
    have ih := loop_step call n h k (i + 1) (by omega) m (by omega) (crcBit v) (crcBit_lt hv)
    rw [iter_succ]
    generalize iter m (fun again0 xs h => s171_l0 call n again0 (getN xs 0) (getN xs 1) h) = G at ih ⊢
    have e1 : ∀ K, biC .and (.int .u32 (v : Int)) (.int .u32 (1 : Int)) K = K (.int .u32 (v % 2 : Nat)) := fun K => by
      have := biC_andN (k := .u32) (a := v) (b := 1) (K := K) rfl (by simp only [IntKind.bits]; omega) (by decide)
      rw [Nat.and_one_is_mod] at this
      exact this
    have e2 : IntKind.u32.wrap (0 - ((v % 2 : Nat) : Int)) = ((if v % 2 = 1 then 4294967295 else 0 : Nat) : Int) := by
      rw [wrap_u32']
      by_cases hp : v % 2 = 1
      · simp [hp]
      · have : v % 2 = 0 := by omega
        simp [this]
    have e3 : ∀ K, biC .and (.int .u32 ((if v % 2 = 1 then 4294967295 else 0 : Nat) : Int)) (.int .u32 (3988292384 : Int)) K = K (.int .u32 ((if v % 2 = 1 then 4294967295 else 0) &&& 3988292384 : Nat)) := fun K =>
      biC_andN (k := .u32) (b := 3988292384) rfl (by simp only [IntKind.bits]; split <;> decide) (by decide)
    have e4 : ∀ K, biC .xor (.int .u32 ((v / 2 : Nat) : Int)) (.int .u32 (((if v % 2 = 1 then 4294967295 else 0) &&& 3988292384 : Nat) : Int)) K = K (.int .u32 (crcBit v : Nat)) := fun K => by
      rw [← step_bit hv]
      exact biC_xorN (k := .u32) rfl (by simp only [IntKind.bits]; omega) (Nat.lt_of_le_of_lt Nat.and_le_right (by decide))
    have e5 : ∀ K, shC .shr (.int .u32 (v : Int)) (.int .u64 1) K = K (.int .u32 (v / 2 : Nat)) := fun K => by
      rw [shC_shrN (by decide)]; rfl
    have e6 : IntKind.i64.wrap ((i : Int) + 1) = ((i + 1 : Nat) : Int) := by rw [wrap_i64 (by omega) (by omega)]; rfl
    have e7 : icmp .lt (i : Int) 8 = true := decide_eq_true (by omega)
    simp only [getN_0, getN_s, s171_l0, cmC_int, e7, cnd_t, e1, negC_i, e2, e5, e3, e4, biC_add, e6, ih, crcBits]
theorem t0_step {m v : Nat} {b : Int} (hm : 20 ≤ m) (hv : v < 4294967296) (hb0 : 0 ≤ b) (hb : b < 256) (h : Heap) : run t0.get m 171 [.int .u32 v, .int .u8 b] h = some (.int .u32 (crcBits 8 (v ^^^ b.toNat) : Nat), h) := by
  rw [t0_r171 (by omega)]
  obtain ⟨b, rfl⟩ := Int.eq_ofNat_of_zero_le hb0
  have e1 : IntKind.u32.wrap (b : Int) = (b : Int) := wrap_u32 (by omega) (by omega)
  have e2 : ∀ K, biC .xor (.int .u32 (v : Int)) (.int .u32 (b : Int)) K = K (.int .u32 (v ^^^ b : Nat)) := fun K =>
    biC_xorN (k := .u32) rfl (by simp only [IntKind.bits]; omega) (by simp only [IntKind.bits]; omega)
  simp only [s171, cviC_i, e1, e2]
  exact loop_step _ _ h 8 0 rfl (m - 1) (by omega) _ (Nat.xor_lt_two_pow (n := 32) (by omega) (by omega))
end Go.AM.T
set_option maxRecDepth 100000
set_option linter.unusedVariables false
set_option linter.unusedSimpArgs false
namespace Go.AM.T
open Go Go.AM
theorem i64s {i : Nat} (h : i < 9223372036854775807) : IntKind.i64.wrap ((i : Int) + 1) = ((i + 1 : Nat) : Int) := by rw [wrap_i64 (by omega) (by omega)]; rfl
theorem drop_cons {α : Type} {s : List α} {i : Nat} (h : i < s.length) : s.drop i = s[i] :: s.drop (i + 1) := List.drop_eq_getElem_cons h
theorem loop_add {q : Nat} (hq : 20 ≤ q) (n : Nat) {b : Nat} {s : List UInt8} (hs : s.length < 9223372036854775807) : ∀ (k i : Nat), i + k = s.length → ∀ (m : Nat), k < m → ∀ (v : Nat) (h : Heap), v < 4294967296 → h.blk b = some (.cells [.int .u32 v]) →
    ∃ h', iter m (fun again0 xs h => s160_l0 (run t0.get q) n again0 (.ptr b 0) (.str s) (.int .i64 s.length) (getN xs 0) h) [.int .i64 i] h = some (.tup [], h') ∧ h'.blk b = some (.cells [.int .u32 (crcReg v (s.drop i) : Nat)])
  | 0, i, hi, m, hm, v, h, hv, hb => by
    obtain ⟨m, rfl⟩ : ∃ q, m = q + 1 := ⟨m - 1, by omega⟩
    have : i = s.length := by omega
    subst this
    refine ⟨h, ?_, by simpa [crcReg] using hb⟩
    simp [s160_l0]
  | k + 1, i, hi, m, hm, v, h, hv, hb => by
    obtain ⟨m, rfl⟩ : ∃ q, m = q + 1 := ⟨m - 1, by omega⟩
    have hil : i < s.length := by omega
    have hbt := s[i].toNat_lt
    have hx : v ^^^ s[i].toNat < 4294967296 := Nat.xor_lt_two_pow (n := 32) (by omega) (by omega)
    obtain ⟨h', ih, hb'⟩ := loop_add hq n hs k (i + 1) (by omega) m (by omega) (crcBits 8 (v ^^^ s[i].toNat)) (h.put b (.cells [.int .u32 (crcBits 8 (v ^^^ s[i].toNat) : Nat)])) (crcBits_lt 8 hx) (blk_put_same _ _)
    refine ⟨h', ?_, ?_⟩
    · rw [iter_succ]
      generalize iter m (fun again0 xs h => s160_l0 (run t0.get q) n again0 (.ptr b 0) (.str s) (.int .i64 s.length) (getN xs 0) h) = G at ih ⊢
      have e7 : icmp .lt (i : Int) (s.length : Int) = true := decide_eq_true (by omega)
      have e1 : ∀ K, ixtC (.str s) (.int .i64 (i : Int)) K = K (.int .u8 (s[i].toNat : Int)) := fun K => ixtC_s (by omega) (by simpa using hil)
      have e2 : ∀ K, ldC false 1 (.ptr b 0) h K = K (.int .u32 v) := fun K => by rw [ldC_p hb (by simp)]; rfl
      have e3 : ∀ K, clC (run t0.get q) 171 [.int .u32 v, .int .u8 (s[i].toNat : Int)] h K = K (.int .u32 (crcBits 8 (v ^^^ s[i].toNat) : Nat)) h := fun K => by
        have := t0_step (b := (s[i].toNat : Int)) hq hv (by omega) (by omega) h
        rw [Int.toNat_natCast] at this
        exact clC_of this
      have e4 : ∀ K, stC 1 (.ptr b 0) (.int .u32 (crcBits 8 (v ^^^ s[i].toNat) : Nat)) h K = K (h.put b (.cells [.int .u32 (crcBits 8 (v ^^^ s[i].toNat) : Nat)])) := fun K => (stC_p (n := 1) hb rfl (by simp)).trans rfl
      simp only [getN_0, s160_l0, cmC_int, e7, cnd_t, nilC_p, faC_p, Nat.add_zero, e2, e1, e3, e4, biC_add, i64s (show i < 9223372036854775807 by omega), ih]
    · rw [hb', drop_cons hil]; rfl
theorem t0_add {m b : Nat} {s : List UInt8} (hm : s.length + 25 ≤ m) (hs : s.length < 9223372036854775807) {v : Nat} (hv : v < 4294967296) {h : Heap} (hb : h.blk b = some (.cells [.int .u32 v])) :
    ∃ h', run t0.get m 160 [.ptr b 0, .str s] h = some (.tup [], h') ∧ h'.blk b = some (.cells [.int .u32 (crcReg v s : Nat)]) := by
  obtain ⟨h', e, hb'⟩ := loop_add (q := m - 1) (by omega) (m - 1) hs s.length 0 (by omega) (m - 1) (by omega) v h hv hb
  refine ⟨h', ?_, by simpa using hb'⟩
  rw [t0_r160 (by omega)]
  have : ceC .p false (.ptr b 0) .nilp = fun K => K (.bool false) := rfl
  simp only [s160, this, cnd_f, lensC_s]
  exact e
theorem t0_new {m v : Nat} (hm : 2 ≤ m) (hv : v < 4294967296) (h : Heap) : run t0.get m 159 [.int .u32 v] h = some (.ptr h.next 0, h.add (.cells [.int .u32 (4294967295 - v : Nat)])) := by
  rw [t0_r159 (by omega)]
  have e : ∀ x K, aggC [.int .u32 0] [(0, 1, .int .u32 x)] K = K (.agg [.int .u32 x]) := fun x K => rfl
  simp only [s159, cplC_u32 hv, e, boxC_e (z := 1) (v := .agg [.int .u32 (4294967295 - v : Nat)]) rfl, cells_agg]
theorem t0_value {m v b : Nat} (hm : 2 ≤ m) (hv : v < 4294967296) {h : Heap} (hb : h.blk b = some (.cells [.int .u32 v])) : run t0.get m 161 [.ptr b 0] h = some (.int .u32 (4294967295 - v : Nat), h) := by
  rw [t0_r161 (by omega)]
  have : ceC .p false (.ptr b 0) .nilp = fun K => K (.bool false) := rfl
  have e2 : ∀ K, ldC false 1 (.ptr b 0) h K = K (.int .u32 v) := fun K => by rw [ldC_p hb (by simp)]; rfl
  simp only [s161, this, cnd_f, nilC_p, faC_p, Nat.add_zero, e2, cplC_u32 hv]
theorem t0_crc {m b : Nat} {s : List UInt8} (hm : s.length + 30 ≤ m) (hs : s.length < 9223372036854775807) (hb : b < 4294967296) (h : Heap) :
    ∃ h', run t0.get m 135 [.int .u32 b, .str s] h = some (.int .u32 (crc b s : Nat), h') := by
  obtain ⟨h', e, hb'⟩ := t0_add (m := m - 1) (b := h.next) (by omega) hs (v := 4294967295 - b) (by omega) (blk_add_same (h := h) (.cells [.int .u32 (4294967295 - b : Nat)]))
  refine ⟨h', ?_⟩
  rw [t0_r135 (by omega)]
  simp only [s135, clC_of (t0_new (m := m - 1) (by omega) hb h), clC_of e, clC_of (t0_value (m := m - 1) (by omega) (crcReg_lt s (by omega)) hb')]
  rfl
theorem loop_all {q : Nat} (n : Nat) {b : Nat} {w : Own} {xs : List (List UInt8)} (hq : ∀ x ∈ xs, x.length + 30 ≤ q ∧ x.length < 9223372036854775807) (hq2 : 2 ≤ q) (hx : xs.length < 9223372036854775807) : ∀ (k i : Nat), i + k = xs.length → ∀ (m : Nat), k < m → ∀ (v : Nat) (h : Heap), v < 4294967296 → h.blk b = some (.cells [.int .u32 v]) →
    ∃ h', iter m (fun again0 ys h => s157_l0 (run t0.get q) n again0 (.ptr b 0) (.sl w 1 (xs.map Val.str)) (.int .i64 xs.length) (getN ys 0) h) [.int .i64 i] h = some (.int .u32 (4294967295 - crcReg v (xs.drop i).flatten : Nat), h')
  | 0, i, hi, m, hm, v, h, hv, hb => by
    obtain ⟨m, rfl⟩ : ∃ q, m = q + 1 := ⟨m - 1, by omega⟩
    have : i = xs.length := by omega
    subst this
    refine ⟨h, ?_⟩
    have e7 : icmp .lt (xs.length : Int) (xs.length : Int) = false := decide_eq_false (by omega)
    rw [iter_succ]
    simp only [getN_0, s157_l0, cmC_int, e7, cnd_f, clC_of (t0_value hq2 hv hb), List.drop_length, List.flatten_nil, crcReg, List.foldl_nil]
  | k + 1, i, hi, m, hm, v, h, hv, hb => by
    obtain ⟨m, rfl⟩ : ∃ q, m = q + 1 := ⟨m - 1, by omega⟩
    have hil : i < xs.length := by omega
    obtain ⟨hl1, hl2⟩ := hq xs[i] (List.getElem_mem hil)
    obtain ⟨h1, e1, hb1⟩ := t0_add (m := q) (s := xs[i]) (by omega) hl2 hv hb
    obtain ⟨h', ih⟩ := loop_all n (w := w) hq hq2 hx k (i + 1) (by omega) m (by omega) (crcReg v xs[i]) h1 (crcReg_lt _ hv) hb1
    refine ⟨h', ?_⟩
    rw [iter_succ]
    generalize iter m (fun again0 ys h => s157_l0 (run t0.get q) n again0 (.ptr b 0) (.sl w 1 (xs.map Val.str)) (.int .i64 xs.length) (getN ys 0) h) = G at ih ⊢
    have e7 : icmp .lt (i : Int) (xs.length : Int) = true := decide_eq_true (by omega)
    have e2 : ∀ K, ixsC 1 (.sl w 1 (xs.map Val.str)) (.int .i64 (i : Int)) K = K (.ep [.str xs[i]]) := fun K => ixsC_sl (v := .str xs[i]) (by rw [List.getElem?_map, List.getElem?_eq_getElem hil]; rfl)
    have e3 : ∀ K, ldC false 1 (.ep [.str xs[i]]) h K = K (.str xs[i]) := fun K => rfl
    simp only [getN_0, s157_l0, cmC_int, e7, cnd_t, e2, e3, clC_of e1, biC_add, i64s (show i < 9223372036854775807 by omega), ih]
    rw [drop_cons hil, List.flatten_cons, crcReg_append]
theorem t0_all {m : Nat} {w : Own} {xs : List (List UInt8)} (hq : ∀ x ∈ xs, x.length + 40 ≤ m) (hm : xs.length + 40 ≤ m) (hm2 : m < 9223372036854775807) (h : Heap) :
    ∃ h', run t0.get m 157 [.sl w 1 (xs.map Val.str)] h = some (.int .u32 (crc 0 xs.flatten : Nat), h') := by
  obtain ⟨h', e⟩ := loop_all (q := m - 1) (m - 1) (w := w) (xs := xs) (b := h.next) (fun x hx => by have := hq x hx; omega) (by omega) (by omega) xs.length 0 (by omega) (m - 1) (by omega) 4294967295 (h.add (.cells [.int .u32 (4294967295 - 0 : Nat)])) (by decide) (blk_add_same _)
  refine ⟨h', ?_⟩
  rw [t0_r157 (by omega)]
  have : run t0.get (m - 1) 159 [.int .u32 0] h = some (.ptr h.next 0, h.add (.cells [.int .u32 (4294967295 - 0 : Nat)])) := t0_new (m := m - 1) (v := 0) (by omega) (by decide) h
  simp only [s157, clC_of this, lenlC_s, List.length_map]
  exact e
end Go.AM.T
set_option maxRecDepth 100000
set_option linter.unusedVariables false
set_option linter.unusedSimpArgs false
namespace Go.AM.T
open Go Go.AM
theorem be_get : ∀ (n v i : Nat) (hi : i < n), (be n v)[i]? = some (UInt8.ofNat (v / 256 ^ (n - 1 - i) % 256))
  | 0, v, i, hi => by omega
  | n + 1, v, i, hi => by
    by_cases h : i < n
    · rw [be, List.getElem?_append_left (by rw [be_len]; exact h), be_get n (v / 256) i h, Nat.div_div_eq_div_mul]
      have : n + 1 - 1 - i = (n - 1 - i) + 1 := by omega
      rw [this, Nat.pow_succ, Nat.mul_comm]
    · have : i = n := by omega
      subst this
      rw [be, List.getElem?_append_right (by rw [be_len]; exact Nat.le_refl _), be_len]
      simp
theorem be_take {n v i : Nat} (hi : i < n) : (be n v).take (i + 1) = (be n v).take i ++ [UInt8.ofNat (v / 256 ^ (n - 1 - i) % 256)] := by
  rw [List.take_add_one, be_get n v i hi]; rfl
theorem toNat_ofNat_mod (x : Nat) : (UInt8.ofNat (x % 256)).toNat = x % 256 := by
  rw [UInt8.toNat_ofNat']; omega
theorem i64sub {a b : Nat} (h : b ≤ a) (ha : a < 9223372036854775807) : IntKind.i64.wrap ((a : Int) - (b : Int)) = ((a - b : Nat) : Int) := by rw [wrap_i64 (by omega) (by omega)]; omega
theorem loop_fixed (call : Call) (q : Nat) {b n v : Nat} (hn : n ≤ 8) : ∀ (k i : Nat), i + k = n → ∀ (m : Nat), k < m → ∀ h, h.blk b = some (.cells (ofBytes ((be n v).take i) ++ List.replicate (8 - i) (.int .u8 0))) →
    ∃ h', iter m (fun again0 ys h => s134_l0 call q again0 (.int .u64 v) (.int .i64 n) (.ptr b 0) (.int .i64 n) (getN ys 0) h) [.int .i64 i] h = some (.tup [.str (be n v), .int .i64 0], h')
  | 0, i, hi, m, hm, h, hb => by
    obtain ⟨m, rfl⟩ : ∃ q, m = q + 1 := ⟨m - 1, by omega⟩
    have : i = n := by omega
    subst this
    refine ⟨h, ?_⟩
    have e7 : icmp .lt (i : Int) (i : Int) = false := decide_eq_false (by omega)
    rw [List.take_of_length_le (by rw [be_len]; exact Nat.le_refl _)] at hb
    have e1 : ∀ K, slaC 8 1 (.ptr b 0) none (some (.int .i64 (i : Int))) K = K (.ms b 0 i 8 1) := fun K =>
      slaC_p (e := i) (a := 0) (by simp only [obnd]; rw [bnd_i (by omega) (by omega)]; rfl) rfl (by decide)
    have e2 : ∀ K, cvsC (.ms b 0 i 8 1) h K = K (.str (be i v)) := fun K =>
      cvsC_ms hb (by simp [be_len]) (by
        rw [List.drop_zero, List.take_append_of_le_length (by simp [be_len]), List.take_of_length_le (by simp [be_len]), bytesOf_of])
    rw [iter_succ]
    simp only [getN_0, s134_l0, cmC_int, e7, cnd_f, e1, e2]
  | k + 1, i, hi, m, hm, h, hb => by
    obtain ⟨m, rfl⟩ : ∃ q, m = q + 1 := ⟨m - 1, by omega⟩
    have hin : i < n := by omega
    let x : Nat := v / 256 ^ (n - 1 - i)
    have hlen : (ofBytes ((be n v).take i)).length = i := by simp [be_len]; omega
    have hst : (ofBytes ((be n v).take i) ++ List.replicate (8 - i) (Val.int .u8 0)).take i ++ [Val.int .u8 (x % 256 : Nat)] ++ (ofBytes ((be n v).take i) ++ List.replicate (8 - i) (Val.int .u8 0)).drop (i + 1) =
        ofBytes ((be n v).take (i + 1)) ++ List.replicate (8 - (i + 1)) (Val.int .u8 0) := by
      rw [be_take hin, ofBytes_append, List.take_append_of_le_length (by omega), List.take_of_length_le (by omega), List.drop_append, List.drop_of_length_le (by omega), hlen, List.nil_append, List.drop_replicate]
      have : 8 - i - (i + 1 - i) = 8 - (i + 1) := by omega
      rw [this, List.append_assoc, List.append_assoc]
      simp only [ofBytes, List.map_cons, List.map_nil, toNat_ofNat_mod]
      rfl
    obtain ⟨h', ih⟩ := loop_fixed call q hn k (i + 1) (by omega) m (by omega) (h.put b (.cells (ofBytes ((be n v).take (i + 1)) ++ List.replicate (8 - (i + 1)) (.int .u8 0)))) (blk_put_same _ _)
    refine ⟨h', ?_⟩
    rw [iter_succ]
    generalize iter m (fun again0 ys h => s134_l0 call q again0 (.int .u64 v) (.int .i64 n) (.ptr b 0) (.int .i64 n) (getN ys 0) h) = G at ih ⊢
    have e7 : icmp .lt (i : Int) (n : Int) = true := decide_eq_true (by omega)
    have e1 : IntKind.i64.wrap ((n : Int) - 1) = ((n - 1 : Nat) : Int) := i64sub (b := 1) (by omega) (by omega)
    have e2 : IntKind.i64.wrap (((n - 1 : Nat) : Int) - (i : Int)) = ((n - 1 - i : Nat) : Int) := i64sub (by omega) (by omega)
    have e3 : IntKind.i64.wrap (8 * ((n - 1 - i : Nat) : Int)) = ((8 * (n - 1 - i) : Nat) : Int) := by rw [wrap_i64 (by omega) (by omega)]; omega
    have e4 : ∀ K, shC .shr (.int .u64 (v : Int)) (.int .i64 ((8 * (n - 1 - i) : Nat) : Int)) K = K (.int .u64 (x : Nat)) := fun K => by
      rw [shC_shrN (by omega)]
      have : min ((8 * (n - 1 - i) : Nat) : Int).toNat IntKind.u64.bits = 8 * (n - 1 - i) := by
        simp only [Int.toNat_natCast, IntKind.bits]; omega
      rw [this, Nat.pow_mul]
    have e5 : IntKind.u8.wrap (x : Int) = ((x % 256 : Nat) : Int) := by rw [wrap_u8']; omega
    have e6 : ∀ K, ixpC 8 1 (.ptr b 0) (.int .i64 (i : Int)) K = K (.ptr b i) := fun K => by rw [ixpC_p (by omega) (by omega)]; simp
    have e8 : ∀ K, stC 1 (.ptr b i) (.int .u8 ((x % 256 : Nat) : Int)) h K = K (h.put b (.cells (ofBytes ((be n v).take (i + 1)) ++ List.replicate (8 - (i + 1)) (.int .u8 0)))) := fun K => by
      rw [← hst]
      exact stC_p (n := 1) hb rfl (by simp [be_len]; omega)
    simp only [getN_0, s134_l0, cmC_int, e7, cnd_t, biC_sub, biC_mul, e1, e2, e3, e4, cviC_i, e5, e6, e8, biC_add, i64s (show i < 9223372036854775807 by omega), ih]
theorem t0_fixed {m n v : Nat} (hm : 20 ≤ m) (h1 : 1 ≤ n) (h8 : n ≤ 8) (hv : v < 256 ^ n) (h : Heap) :
    ∃ h', run t0.get m 134 [.int .u64 v, .int .i64 n] h = some (.tup [.str (be n v), .int .i64 0], h') := by
  obtain ⟨h', e⟩ := loop_fixed (run t0.get (m - 1)) (m - 1) (b := h.next) (v := v) h8 n 0 (by omega) (m - 1) (by omega) (h.add (.cells (List.replicate 8 (.int .u8 0)))) (blk_add_same _)
  refine ⟨h', ?_⟩
  rw [t0_r134 (by omega)]
  have a1 : icmp .lt (n : Int) 1 = false := decide_eq_false (by omega)
  have a2 : icmp .gt (n : Int) 8 = false := decide_eq_false (by omega)
  by_cases hn : n = 8
  · subst hn
    simp only [s134, cmC_int, a1, gdC_ff, elim_some, a2, pickC_f, show icmp .lt ((8 : Nat) : Int) 8 = false from rfl, gdC_ft, gdC_u, cnd_f, allocC_e]
    exact e
  · have a3 : icmp .lt (n : Int) 8 = true := decide_eq_true (by omega)
    have a4 : IntKind.i64.wrap (8 * (n : Int)) = ((8 * n : Nat) : Int) := by rw [wrap_i64 (by omega) (by omega)]; omega
    have a5 : ∀ K, shC .shr (.int .u64 (v : Int)) (.int .i64 ((8 * n : Nat) : Int)) K = K (.int .u64 (0 : Nat)) := fun K => by
      rw [shC_shrN (by omega)]
      have : min ((8 * n : Nat) : Int).toNat IntKind.u64.bits = 8 * n := by simp only [Int.toNat_natCast, IntKind.bits]; omega
      rw [this, Nat.pow_mul, Nat.div_eq_of_lt hv]
    simp only [s134, cmC_int, a1, gdC_ff, elim_some, a2, pickC_f, a3, gdC_tt, biC_mul, a4, a5, show icmp .ne ((0 : Nat) : Int) 0 = false from rfl, pickC_t, cnd_f, allocC_e]
    exact e
end Go.AM.T
set_option maxRecDepth 100000
set_option linter.unusedVariables false
set_option linter.unusedSimpArgs false
namespace Go.AM.T
open Go Go.AM
theorem rd_take {s : List UInt8} {i : Nat} (h : i < s.length) : rd 0 (s.take (i + 1)) = 256 * rd 0 (s.take i) + s[i].toNat := by
  rw [List.take_add_one, List.getElem?_eq_getElem h]; simp only [rd, Option.toList_some, List.foldl_append, List.foldl_cons, List.foldl_nil]
theorem rd_take_lt {s : List UInt8} {i : Nat} (h : i ≤ s.length) : rd 0 (s.take i) < 256 ^ i := by
  have := rd_lt (s.take i) 0 0 (by decide)
  rwa [List.length_take, Nat.zero_add, Nat.min_eq_left h] at this
theorem pow256 {i : Nat} (h : i ≤ 8) : 256 ^ i ≤ 18446744073709551616 := by
  have : 256 ^ i ≤ 256 ^ 8 := Nat.pow_le_pow_right (by decide) h
  simpa using this
theorem pow256' {i : Nat} (h : i ≤ 7) : 256 ^ i ≤ 72057594037927936 := by
  have : 256 ^ i ≤ 256 ^ 7 := Nat.pow_le_pow_right (by decide) h
  simpa using this
theorem loop_read (call : Call) (q : Nat) {s : List UInt8} (hs : s.length ≤ 8) (h : Heap) : ∀ (k i : Nat), i + k = s.length → ∀ (m : Nat), k < m →
    iter m (fun again0 ys h => s155_l0 call q again0 (.str s) (.int .i64 s.length) (getN ys 0) (getN ys 1) h) [.int .u64 (rd 0 (s.take i) : Nat), .int .i64 i] h = some (.tup [.int .u64 (rd 0 s : Nat), .int .i64 0], h)
  | 0, i, hi, m, hm => by
    obtain ⟨m, rfl⟩ : ∃ q, m = q + 1 := ⟨m - 1, by omega⟩
    have : i = s.length := by omega
    subst this
    have e7 : icmp .lt (s.length : Int) (s.length : Int) = false := decide_eq_false (by omega)
    rw [iter_succ]
    simp only [getN_0, getN_s, s155_l0, cmC_int, e7, cnd_f, List.take_length]
  | k + 1, i, hi, m, hm => by
    obtain ⟨m, rfl⟩ : ∃ q, m = q + 1 := ⟨m - 1, by omega⟩
    have hil : i < s.length := by omega
    have ih := loop_read call q hs h k (i + 1) (by omega) m (by omega)
    have hv := rd_take_lt (s := s) (i := i) (by omega)
    have hp := pow256' (i := i) (by omega)
    have hb := s[i].toNat_lt
    rw [iter_succ]
    generalize iter m (fun again0 ys h => s155_l0 call q again0 (.str s) (.int .i64 s.length) (getN ys 0) (getN ys 1) h) = G at ih ⊢
    have e7 : icmp .lt (i : Int) (s.length : Int) = true := decide_eq_true (by omega)
    have e1 : ∀ K, ixtC (.str s) (.int .i64 (i : Int)) K = K (.int .u8 (s[i].toNat : Int)) := fun K => ixtC_s (by omega) (by simpa using hil)
    have e2 : ∀ K, shC .shl (.int .u64 (rd 0 (s.take i) : Nat)) (.int .u64 8) K = K (.int .u64 (256 * rd 0 (s.take i) : Nat)) := fun K => by
      rw [shC_shl (by decide)]
      have : min (8 : Int).toNat IntKind.u64.bits = 8 := rfl
      rw [this, wrap_u64 (by omega) (by omega)]
      congr 2
      omega
    have e3 : IntKind.u64.wrap (s[i].toNat : Int) = (s[i].toNat : Int) := wrap_u64 (by omega) (by omega)
    have e4 : ∀ K, biC .or (.int .u64 ((256 * rd 0 (s.take i) : Nat) : Int)) (.int .u64 (s[i].toNat : Int)) K = K (.int .u64 (rd 0 (s.take (i + 1)) : Nat)) := fun K => by
      rw [biC_orN (k := .u64) rfl (by simp only [IntKind.bits]; omega) (by simp only [IntKind.bits]; omega), rd_take hil]
      rw [← Nat.two_pow_add_eq_or_of_lt (i := 8) hb]
    simp only [getN_0, getN_s, s155_l0, cmC_int, e7, cnd_t, e2, e1, cviC_i, e3, e4, biC_add, i64s (show i < 9223372036854775807 by omega), ih]
theorem eqB_nil {s : List UInt8} (h : s ≠ []) : eqB s [] = false := by
  cases s with
  | nil => exact absurd rfl h
  | cons a s => rfl
theorem t0_read {m : Nat} {s : List UInt8} (hm : 20 ≤ m) (h1 : 1 ≤ s.length) (h8 : s.length ≤ 8) (h : Heap) :
    run t0.get m 155 [.str s] h = some (.tup [.int .u64 (rd 0 s : Nat), .int .i64 0], h) := by
  rw [t0_r155 (by omega)]
  have a1 : scmp .eq s [] = false := eqB_nil (by intro e; subst e; simp at h1)
  have a2 : icmp .gt (s.length : Int) 8 = false := decide_eq_false (by omega)
  simp only [s155, cmC_str, a1, gdC_ff, elim_some, lensC_s, cmC_int, a2, pickC_f, cnd_f]
  exact loop_read _ _ h8 h s.length 0 (by omega) (m - 1) (by omega)
theorem be_cons : ∀ (n v : Nat), be (n + 1) v = UInt8.ofNat (v / 256 ^ n % 256) :: be n v
  | 0, v => by simp [be]
  | n + 1, v => by
    rw [be, be_cons n (v / 256), be, Nat.div_div_eq_div_mul, Nat.pow_succ, Nat.mul_comm 256]; rfl
theorem loop_rfixed (call : Call) (q : Nat) {n v : Nat} (hn : n ≤ 8) (hv : v < 18446744073709551616) (h : Heap) : ∀ (k i : Nat), i + k = n → ∀ (m : Nat), k < m →
    iter m (fun again0 ys h => s116_l0 call q again0 (.int .i64 n) (getN ys 0) (getN ys 1) (getN ys 2) h) [.int .u64 (v / 256 ^ i : Nat), .str (be i v), .int .i64 i] h = some (.str (be n v), h)
  | 0, i, hi, m, hm => by
    obtain ⟨m, rfl⟩ : ∃ q, m = q + 1 := ⟨m - 1, by omega⟩
    have : i = n := by omega
    subst this
    have e7 : icmp .lt (i : Int) (i : Int) = false := decide_eq_false (by omega)
    rw [iter_succ]
    simp only [getN_0, getN_s, s116_l0, cmC_int, e7, cnd_f]
  | k + 1, i, hi, m, hm => by
    obtain ⟨m, rfl⟩ : ∃ q, m = q + 1 := ⟨m - 1, by omega⟩
    have ih := loop_rfixed call q hn hv h k (i + 1) (by omega) m (by omega)
    obtain ⟨x, hxe⟩ : ∃ x, v / 256 ^ i = x := ⟨_, rfl⟩
    have hx : x < 18446744073709551616 := by rw [← hxe]; exact Nat.lt_of_le_of_lt (Nat.div_le_self _ _) hv
    rw [hxe]
    rw [iter_succ]
    generalize iter m (fun again0 ys h => s116_l0 call q again0 (.int .i64 n) (getN ys 0) (getN ys 1) (getN ys 2) h) = G at ih ⊢
    have e7 : icmp .lt (i : Int) (n : Int) = true := decide_eq_true (by omega)
    have e1 : ∀ K, biC .rem (.int .u64 (x : Int)) (.int .u64 256) K = K (.int .u64 (x % 256 : Nat)) := fun K => by
      rw [biC_rem (by decide), Int.tmod_eq_emod_of_nonneg (by omega)]; rfl
    have e2 : ∀ K, biC .quo (.int .u64 (x : Int)) (.int .u64 256) K = K (.int .u64 (v / 256 ^ (i + 1) : Nat)) := fun K => by
      rw [biC_quo (by decide), Int.tdiv_eq_ediv_of_nonneg (by omega)]
      have : (x : Int) / 256 = ((x / 256 : Nat) : Int) := rfl
      rw [this, wrap_u64 (by omega) (by omega), show x / 256 = v / 256 ^ (i + 1) from by rw [← hxe, Nat.div_div_eq_div_mul, Nat.pow_succ]]
    have e3 : IntKind.u8.wrap ((x % 256 : Nat) : Int) = ((x % 256 : Nat) : Int) := wrap_u8 (by omega) (by omega)
    have e4 : ∀ K, bslC 1 [.int .u8 ((x % 256 : Nat) : Int)] K = K (.sl .ex 1 [.int .u8 ((x % 256 : Nat) : Int)]) := fun K => rfl
    have e5 : ∀ K, cvsC (.sl .ex 1 [.int .u8 ((x % 256 : Nat) : Int)]) h K = K (.str [UInt8.ofNat (x % 256)]) := fun K => cvsC_sl (by simp only [bytesOf, byteOf_i, Int.toNat_natCast])
    have e6 : ∀ K, addSC (.str [UInt8.ofNat (x % 256)]) (.str (be i v)) K = K (.str (be (i + 1) v)) := fun K => by
      rw [addSC_s _ _ (by rw [be_len]; simp; omega), be_cons, hxe]; rfl
    simp only [getN_0, getN_s, s116_l0, cmC_int, e7, cnd_t, e1, cviC_i, e3, e4, e5, e6, e2, biC_add, i64s (show i < 9223372036854775807 by omega), ih]
theorem t0_rfixed {m n v : Nat} (hm : 20 ≤ m) (h8 : n ≤ 8) (hv : v < 18446744073709551616) (h : Heap) : run t0.get m 116 [.int .u64 v, .int .i64 n] h = some (.str (be n v), h) := by
  rw [t0_r116 (by omega)]
  have := loop_rfixed (run t0.get (m - 1)) (m - 1) h8 hv h n 0 (by omega) (m - 1) (by omega)
  rw [show v / 256 ^ 0 = v from by simp] at this
  exact this
theorem loop_rread (call : Call) (q : Nat) {s : List UInt8} (hs : s.length ≤ 8) (h : Heap) : ∀ (k i : Nat), i + k = s.length → ∀ (m : Nat), k < m →
    iter m (fun again0 ys h => s115_l0 call q again0 (.str s) (.int .i64 s.length) (getN ys 0) (getN ys 1) h) [.int .u64 (rd 0 (s.take i) : Nat), .int .i64 i] h = some (.int .u64 (rd 0 s : Nat), h)
  | 0, i, hi, m, hm => by
    obtain ⟨m, rfl⟩ : ∃ q, m = q + 1 := ⟨m - 1, by omega⟩
    have : i = s.length := by omega
    subst this
    have e7 : icmp .lt (s.length : Int) (s.length : Int) = false := decide_eq_false (by omega)
    rw [iter_succ]
    simp only [getN_0, getN_s, s115_l0, cmC_int, e7, cnd_f, List.take_length]
  | k + 1, i, hi, m, hm => by
    obtain ⟨m, rfl⟩ : ∃ q, m = q + 1 := ⟨m - 1, by omega⟩
    have hil : i < s.length := by omega
    have ih := loop_rread call q hs h k (i + 1) (by omega) m (by omega)
    have hv := rd_take_lt (s := s) (i := i) (by omega)
    have hp := pow256' (i := i) (by omega)
    have hb := s[i].toNat_lt
    rw [iter_succ]
    generalize iter m (fun again0 ys h => s115_l0 call q again0 (.str s) (.int .i64 s.length) (getN ys 0) (getN ys 1) h) = G at ih ⊢
    have e7 : icmp .lt (i : Int) (s.length : Int) = true := decide_eq_true (by omega)
    have e1 : ∀ K, ixtC (.str s) (.int .i64 (i : Int)) K = K (.int .u8 (s[i].toNat : Int)) := fun K => ixtC_s (by omega) (by simpa using hil)
    have e2 : IntKind.u64.wrap (256 * ((rd 0 (s.take i) : Nat) : Int)) = ((256 * rd 0 (s.take i) : Nat) : Int) := by rw [wrap_u64 (by omega) (by omega)]; omega
    have e3 : IntKind.u64.wrap (s[i].toNat : Int) = (s[i].toNat : Int) := wrap_u64 (by omega) (by omega)
    have e4 : IntKind.u64.wrap (((256 * rd 0 (s.take i) : Nat) : Int) + (s[i].toNat : Int)) = ((rd 0 (s.take (i + 1)) : Nat) : Int) := by rw [rd_take hil, wrap_u64 (by omega) (by omega)]; omega
    simp only [getN_0, getN_s, s115_l0, cmC_int, e7, cnd_t, biC_mul, e2, e1, cviC_i, e3, biC_add, e4, i64s (show i < 9223372036854775807 by omega), ih]
theorem t0_rread {m : Nat} {s : List UInt8} (hm : 20 ≤ m) (h8 : s.length ≤ 8) (h : Heap) : run t0.get m 115 [.str s] h = some (.int .u64 (rd 0 s : Nat), h) := by
  rw [t0_r115 (by omega)]
  simp only [s115, lensC_s]
  exact loop_rread _ _ h8 h s.length 0 (by omega) (m - 1) (by omega)
theorem loop_rcrc1 {p : Nat} (hp : 2 ≤ p) (q : Nat) (G : List Val → Heap → R) (a b : Val) {i : Nat} (hi : i < 9223372036854775807) (h : Heap) : ∀ (k j : Nat), j + k = 8 → ∀ (m : Nat), k < m → ∀ v : Nat, v < 4294967296 →
    iter m (fun again1 ys h => s117_l1 (run t0.get p) q G again1 a b (.int .i64 i) (getN ys 0) (getN ys 1) h) [.int .u32 v, .int .i64 j] h = G [.int .u32 (crcBits k v : Nat), .int .i64 (i + 1 : Nat)] h
  | 0, j, hj, m, hm, v, hv => by
    obtain ⟨m, rfl⟩ : ∃ q, m = q + 1 := ⟨m - 1, by omega⟩
    have : j = 8 := by omega
    subst this
    rw [iter_succ]
    simp only [getN_0, getN_s, s117_l1, cmC_int, show icmp .lt ((8 : Nat) : Int) 8 = false from rfl, cnd_f, biC_add, i64s hi, crcBits]
  | k + 1, j, hj, m, hm, v, hv => by
    obtain ⟨m, rfl⟩ : ∃ q, m = q + 1 := ⟨m - 1, by omega⟩
    have ih := loop_rcrc1 hp q G a b hi h k (j + 1) (by omega) m (by omega) (crcBit v) (crcBit_lt hv)
    rw [iter_succ]
    generalize iter m (fun again1 ys h => s117_l1 (run t0.get p) q G again1 a b (.int .i64 i) (getN ys 0) (getN ys 1) h) = G1 at ih ⊢
    have e7 : icmp .lt (j : Int) 8 = true := decide_eq_true (by omega)
    simp only [getN_0, getN_s, s117_l1, cmC_int, e7, cnd_t, clC_of (t0_shifted hp hv h), biC_add, i64s (show j < 9223372036854775807 by omega), ih, crcBits]
theorem loop_rcrc {p : Nat} (hp : 2 ≤ p) {q : Nat} (hq : 9 ≤ q) {s : List UInt8} (hs : s.length < 9223372036854775807) (h : Heap) : ∀ (k i : Nat), i + k = s.length → ∀ (m : Nat), k < m → ∀ v : Nat, v < 4294967296 →
    iter m (fun again0 ys h => s117_l0 (run t0.get p) q again0 (.str s) (.int .i64 s.length) (getN ys 0) (getN ys 1) h) [.int .u32 v, .int .i64 i] h = some (.int .u32 (4294967295 - crcReg v (s.drop i) : Nat), h)
  | 0, i, hi, m, hm, v, hv => by
    obtain ⟨m, rfl⟩ : ∃ q, m = q + 1 := ⟨m - 1, by omega⟩
    have : i = s.length := by omega
    subst this
    have e7 : icmp .lt (s.length : Int) (s.length : Int) = false := decide_eq_false (by omega)
    have e1 : IntKind.u32.wrap (4294967295 - (v : Int)) = ((4294967295 - v : Nat) : Int) := by rw [wrap_u32 (by omega) (by omega)]; omega
    rw [iter_succ]
    simp only [getN_0, getN_s, s117_l0, cmC_int, e7, cnd_f, biC_sub, e1, List.drop_length, crcReg, List.foldl_nil]
  | k + 1, i, hi, m, hm, v, hv => by
    obtain ⟨m, rfl⟩ : ∃ q, m = q + 1 := ⟨m - 1, by omega⟩
    have hil : i < s.length := by omega
    have hb := s[i].toNat_lt
    have hx : v ^^^ s[i].toNat < 4294967296 := Nat.xor_lt_two_pow (n := 32) (by omega) (by omega)
    have ih := loop_rcrc hp hq hs h k (i + 1) (by omega) m (by omega) (crcBits 8 (v ^^^ s[i].toNat)) (crcBits_lt 8 hx)
    rw [iter_succ]
    generalize iter m (fun again0 ys h => s117_l0 (run t0.get p) q again0 (.str s) (.int .i64 s.length) (getN ys 0) (getN ys 1) h) = G at ih ⊢
    have e7 : icmp .lt (i : Int) (s.length : Int) = true := decide_eq_true (by omega)
    have e1 : ∀ K, ixtC (.str s) (.int .i64 (i : Int)) K = K (.int .u8 (s[i].toNat : Int)) := fun K => ixtC_s (by omega) (by simpa using hil)
    have e2 : IntKind.u32.wrap (s[i].toNat : Int) = (s[i].toNat : Int) := wrap_u32 (by omega) (by omega)
    have e3 : ∀ K, biC .xor (.int .u32 (v : Int)) (.int .u32 (s[i].toNat : Int)) K = K (.int .u32 (v ^^^ s[i].toNat : Nat)) := fun K =>
      biC_xorN (k := .u32) rfl (by simp only [IntKind.bits]; omega) (by simp only [IntKind.bits]; omega)
    simp only [getN_0, getN_s, s117_l0, cmC_int, e7, cnd_t, e1, cviC_i, e2, e3]
    refine (loop_rcrc1 hp q G (.str s) (.int .i64 s.length) (i := i) (by omega) h 8 0 rfl q (by omega) _ hx).trans ?_
    rw [ih, drop_cons hil]; rfl
theorem t0_rcrc {m b : Nat} {s : List UInt8} (hm : s.length + 20 ≤ m) (hs : s.length < 9223372036854775807) (hb : b < 4294967296) (h : Heap) : run t0.get m 117 [.int .u32 b, .str s] h = some (.int .u32 (crc b s : Nat), h) := by
  rw [t0_r117 (by omega)]
  have e1 : IntKind.u32.wrap (4294967295 - (b : Int)) = ((4294967295 - b : Nat) : Int) := by rw [wrap_u32 (by omega) (by omega)]; omega
  simp only [s117, biC_sub, e1, lensC_s]
  exact loop_rcrc (by omega) (by omega) hs h s.length 0 (by omega) (m - 1) (by omega) _ (by omega)
end Go.AM.T
set_option maxRecDepth 100000
set_option linter.unusedVariables false
set_option linter.unusedSimpArgs false
namespace Go.AM.T
open Go Go.AM
def gFixed : List Val → Option Val
  | [.int .u64 v, .int .i64 n] => bif decide (0 ≤ v) && decide (1 ≤ n) && decide (n ≤ 8) && decide (v.toNat < 256 ^ n.toNat) then some (.tup [.str (be n.toNat v.toNat), .int .i64 0]) else none
  | _ => none
def gRead : List Val → Option Val
  | [.str s] => bif decide (1 ≤ s.length) && decide (s.length ≤ 8) then some (.tup [.int .u64 (rd 0 s : Nat), .int .i64 0]) else none
  | _ => none
def gCrc : List Val → Option Val
  | [.int .u32 b, .str s] => bif decide (0 ≤ b) && decide (b < 4294967296) && decide (s.length < 1000000) then some (.int .u32 (crc b.toNat s : Nat)) else none
  | _ => none
def strsOf : List Val → Option (List (List UInt8))
  | [] => some []
  | .str s :: l => match strsOf l with
    | some r => some (s :: r)
    | none => none
  | _ => none
def gAll : List Val → Option Val
  | [.sl w z l] => match strsOf l with
    | some xs => bif z.beq 1 && decide (xs.length < 1000000) && xs.all (fun x => decide (x.length < 1000000)) && pureV (.sl w z []) then some (.int .u32 (crc 0 xs.flatten : Nat)) else none
    | none => none
  | _ => none
def gRFixed : List Val → Option Val
  | [.int .u64 v, .int .i64 n] => bif decide (0 ≤ v) && decide (v < 18446744073709551616) && decide (0 ≤ n) && decide (n ≤ 8) then some (.str (be n.toNat v.toNat)) else none
  | _ => none
def gRRead : List Val → Option Val
  | [.str s] => bif decide (s.length ≤ 8) then some (.int .u64 (rd 0 s : Nat)) else none
  | _ => none
theorem strsOf_some : ∀ {l : List Val} {xs : List (List UInt8)}, strsOf l = some xs → l = xs.map Val.str
  | [], xs, h => by cases h; rfl
  | v :: l, xs, h => by
    cases v with
    | str s =>
      simp only [strsOf] at h
      split at h
      · rename_i r hr; cases h; rw [strsOf_some hr]; rfl
      · cases h
    | _ => cases h
theorem strsOf_map : ∀ (xs : List (List UInt8)), strsOf (xs.map Val.str) = some xs
  | [] => rfl
  | x :: xs => by simp [strsOf, strsOf_map xs]
theorem roVs_strs : ∀ (xs : List (List UInt8)), roVs (xs.map Val.str) = xs.map Val.str
  | [] => rfl
  | x :: xs => by simp [roVs, roV, roVs_strs xs]
theorem pureVs_strs : ∀ (xs : List (List UInt8)), pureVs (xs.map Val.str) = true
  | [] => rfl
  | x :: xs => by simp [pureVs, pureV, pureVs_strs xs]
theorem and2 {a b : Bool} (ha : a = true) (hb : b = true) : (a && b) = true := by rw [ha, hb]; rfl
theorem sumF_of {G : List Val → Option Val} {xs ys : List Val} {v : Val} {h : Heap} (e1 : roVs xs = ys) (e2 : G ys = some v) : sumF G xs h = some (v, h) := by
  unfold sumF; rw [e1, e2]
theorem cond_of {α : Type} {b : Bool} {x y : α} (h : b = true) : (bif b then x else y) = x := by rw [h]; rfl
section
variable {h : Heap}
theorem p_fixed {v n : Nat} (h1 : 1 ≤ n) (h8 : n ≤ 8) (hv : v < 256 ^ n) : sumF gFixed [.int .u64 v, .int .i64 n] h = some (.tup [.str (be n v), .int .i64 0], h) := by
  refine sumF_of (ys := [.int .u64 v, .int .i64 n]) rfl ?_
  rw [gFixed.eq_1, Int.toNat_natCast, Int.toNat_natCast]
  exact cond_of (and2 (and2 (and2 (decide_eq_true (by omega)) (decide_eq_true (by omega))) (decide_eq_true (by omega))) (decide_eq_true hv))
theorem p_read {s : List UInt8} (h1 : 1 ≤ s.length) (h8 : s.length ≤ 8) : sumF gRead [.str s] h = some (.tup [.int .u64 (rd 0 s : Nat), .int .i64 0], h) := by
  refine sumF_of (ys := [.str s]) rfl ?_
  rw [gRead.eq_1]
  exact cond_of (and2 (decide_eq_true h1) (decide_eq_true h8))
theorem p_crc {b : Nat} {s : List UInt8} (hb : b < 4294967296) (hs : s.length < 1000000) : sumF gCrc [.int .u32 b, .str s] h = some (.int .u32 (crc b s : Nat), h) := by
  refine sumF_of (ys := [.int .u32 b, .str s]) rfl ?_
  rw [gCrc.eq_1, Int.toNat_natCast]
  exact cond_of (and2 (and2 (decide_eq_true (by omega)) (decide_eq_true (by omega))) (decide_eq_true hs))
theorem p_all {w : Own} {xs : List (List UInt8)} (h1 : xs.length < 1000000) (h2 : ∀ x ∈ xs, x.length < 1000000) : sumF gAll [.sl w 1 (xs.map Val.str)] h = some (.int .u32 (crc 0 xs.flatten : Nat), h) := by
  have e : (xs.all fun x => decide (x.length < 1000000)) = true := by rw [List.all_eq_true]; intro x hx; exact decide_eq_true (h2 x hx)
  have k : ∀ w', pureV (.sl w' 1 []) = true → gAll [.sl w' 1 (xs.map Val.str)] = some (.int .u32 (crc 0 xs.flatten : Nat)) := fun w' hw => by
    rw [gAll.eq_1, strsOf_map]
    exact cond_of (and2 (and2 (and2 rfl (decide_eq_true h1)) e) hw)
  have : roVs [Val.sl w 1 (xs.map Val.str)] = [.sl (match w with | .tok _ => .ro | w => w) 1 (xs.map Val.str)] := by
    cases w <;> simp [roVs, roV, roVs_strs]
  exact sumF_of this (k _ (by cases w <;> rfl))
theorem p_rfixed {v n : Nat} (h8 : n ≤ 8) (hv : v < 18446744073709551616) : sumF gRFixed [.int .u64 v, .int .i64 n] h = some (.str (be n v), h) := by
  refine sumF_of (ys := [.int .u64 v, .int .i64 n]) rfl ?_
  rw [gRFixed.eq_1, Int.toNat_natCast, Int.toNat_natCast]
  exact cond_of (and2 (and2 (and2 (decide_eq_true (by omega)) (decide_eq_true (by omega))) (decide_eq_true (by omega))) (decide_eq_true (by omega)))
theorem p_rread {s : List UInt8} (h8 : s.length ≤ 8) : sumF gRRead [.str s] h = some (.int .u64 (rd 0 s : Nat), h) := by
  refine sumF_of (ys := [.str s]) rfl ?_
  rw [gRRead.eq_1]
  exact cond_of (decide_eq_true h8)
 end
end Go.AM.T
set_option maxRecDepth 100000
set_option linter.unusedVariables false
set_option linter.unusedSimpArgs false
namespace Go.AM.T
open Go Go.AM
def t1 : TT := .node 117 (.node 80 (.node 66 (.node 63 (.node 25 (.leaf 12 F12) (.leaf 25 F25)) (.node 65 (.leaf 63 F63) (.leaf 65 F65))) (.node 68 (.node 67 (.leaf 66 F66) (.leaf 67 F67)) (.node 69 (.leaf 68 F68) (.leaf 69 F69)))) (.node 87 (.node 83 (.node 81 (.leaf 80 F80) (.leaf 81 F81)) (.node 84 (.leaf 83 F83) (.leaf 84 F84))) (.node 104 (.node 88 (.leaf 87 F87) (.leaf 88 (.prim pRepeat))) (.node 115 (.leaf 104 F104) (.node 116 (.leaf 115 (.prim (sumF gRRead))) (.leaf 116 (.prim (sumF gRFixed)))))))) (.node 131 (.node 124 (.node 119 (.node 118 (.leaf 117 (.prim (sumF gCrc))) (.leaf 118 F118)) (.node 123 (.leaf 119 F119) (.leaf 123 F123))) (.node 127 (.node 126 (.leaf 124 F124) (.leaf 126 F126)) (.node 129 (.leaf 127 F127) (.node 130 (.leaf 129 F129) (.leaf 130 F130))))) (.node 135 (.node 133 (.node 132 (.leaf 131 F131) (.leaf 132 F132)) (.node 134 (.leaf 133 F133) (.leaf 134 (.prim (sumF gFixed))))) (.node 156 (.node 155 (.leaf 135 (.prim (sumF gCrc))) (.leaf 155 (.prim (sumF gRead)))) (.node 157 (.leaf 156 F156) (.node 158 (.leaf 157 (.prim (sumF gAll))) (.leaf 158 F158))))))
theorem t1_12 : t1.get 12 = some F12 := rfl
theorem t1_25 : t1.get 25 = some F25 := rfl
theorem t1_63 : t1.get 63 = some F63 := rfl
theorem t1_65 : t1.get 65 = some F65 := rfl
theorem t1_66 : t1.get 66 = some F66 := rfl
theorem t1_67 : t1.get 67 = some F67 := rfl
theorem t1_68 : t1.get 68 = some F68 := rfl
theorem t1_69 : t1.get 69 = some F69 := rfl
theorem t1_80 : t1.get 80 = some F80 := rfl
theorem t1_81 : t1.get 81 = some F81 := rfl
theorem t1_83 : t1.get 83 = some F83 := rfl
theorem t1_84 : t1.get 84 = some F84 := rfl
theorem t1_87 : t1.get 87 = some F87 := rfl
theorem t1_88 : t1.get 88 = some (.prim pRepeat) := rfl
theorem t1_104 : t1.get 104 = some F104 := rfl
theorem t1_115 : t1.get 115 = some (.prim (sumF gRRead)) := rfl
theorem t1_116 : t1.get 116 = some (.prim (sumF gRFixed)) := rfl
theorem t1_117 : t1.get 117 = some (.prim (sumF gCrc)) := rfl
theorem t1_118 : t1.get 118 = some F118 := rfl
theorem t1_119 : t1.get 119 = some F119 := rfl
theorem t1_123 : t1.get 123 = some F123 := rfl
theorem t1_124 : t1.get 124 = some F124 := rfl
theorem t1_126 : t1.get 126 = some F126 := rfl
theorem t1_127 : t1.get 127 = some F127 := rfl
theorem t1_129 : t1.get 129 = some F129 := rfl
theorem t1_130 : t1.get 130 = some F130 := rfl
theorem t1_131 : t1.get 131 = some F131 := rfl
theorem t1_132 : t1.get 132 = some F132 := rfl
theorem t1_133 : t1.get 133 = some F133 := rfl
theorem t1_134 : t1.get 134 = some (.prim (sumF gFixed)) := rfl
theorem t1_135 : t1.get 135 = some (.prim (sumF gCrc)) := rfl
theorem t1_155 : t1.get 155 = some (.prim (sumF gRead)) := rfl
theorem t1_156 : t1.get 156 = some F156 := rfl
theorem t1_157 : t1.get 157 = some (.prim (sumF gAll)) := rfl
theorem t1_158 : t1.get 158 = some F158 := rfl
theorem t1_r12 {m : Nat} (hm : 0 < m) (a0 : Val) (h : Heap) : run t1.get m 12 [a0] h = s12 (run t1.get (m - 1)) (m - 1) a0 h := by
  obtain ⟨m, rfl⟩ : ∃ q, m = q + 1 := ⟨m - 1, by omega⟩
  rw [run_succ t1_12, e12]; rfl
theorem t1_r25 {m : Nat} (hm : 0 < m) (a0 : Val) (a1 : Val) (h : Heap) : run t1.get m 25 [a0, a1] h = s25 (run t1.get (m - 1)) (m - 1) a0 a1 h := by
  obtain ⟨m, rfl⟩ : ∃ q, m = q + 1 := ⟨m - 1, by omega⟩
  rw [run_succ t1_25, e25]; rfl
theorem t1_r63 {m : Nat} (hm : 0 < m) (a0 : Val) (h : Heap) : run t1.get m 63 [a0] h = s63 (run t1.get (m - 1)) (m - 1) a0 h := by
  obtain ⟨m, rfl⟩ : ∃ q, m = q + 1 := ⟨m - 1, by omega⟩
  rw [run_succ t1_63, e63]; rfl
theorem t1_r65 {m : Nat} (hm : 0 < m) (a0 : Val) (h : Heap) : run t1.get m 65 [a0] h = s65 (run t1.get (m - 1)) (m - 1) a0 h := by
  obtain ⟨m, rfl⟩ : ∃ q, m = q + 1 := ⟨m - 1, by omega⟩
  rw [run_succ t1_65, e65]; rfl
theorem t1_r66 {m : Nat} (hm : 0 < m) (a0 : Val) (h : Heap) : run t1.get m 66 [a0] h = s66 (run t1.get (m - 1)) (m - 1) a0 h := by
  obtain ⟨m, rfl⟩ : ∃ q, m = q + 1 := ⟨m - 1, by omega⟩
  rw [run_succ t1_66, e66]; rfl
theorem t1_r67 {m : Nat} (hm : 0 < m) (a0 : Val) (a1 : Val) (h : Heap) : run t1.get m 67 [a0, a1] h = s67 (run t1.get (m - 1)) (m - 1) a0 a1 h := by
  obtain ⟨m, rfl⟩ : ∃ q, m = q + 1 := ⟨m - 1, by omega⟩
  rw [run_succ t1_67, e67]; rfl
theorem t1_r68 {m : Nat} (hm : 0 < m) (a0 : Val) (a1 : Val) (a2 : Val) (h : Heap) : run t1.get m 68 [a0, a1, a2] h = s68 (run t1.get (m - 1)) (m - 1) a0 a1 a2 h := by
  obtain ⟨m, rfl⟩ : ∃ q, m = q + 1 := ⟨m - 1, by omega⟩
  rw [run_succ t1_68, e68]; rfl
theorem t1_r69 {m : Nat} (hm : 0 < m) (a0 : Val) (a1 : Val) (a2 : Val) (h : Heap) : run t1.get m 69 [a0, a1, a2] h = s69 (run t1.get (m - 1)) (m - 1) a0 a1 a2 h := by
  obtain ⟨m, rfl⟩ : ∃ q, m = q + 1 := ⟨m - 1, by omega⟩
  rw [run_succ t1_69, e69]; rfl
theorem t1_r80 {m : Nat} (hm : 0 < m) (a0 : Val) (h : Heap) : run t1.get m 80 [a0] h = s80 (run t1.get (m - 1)) (m - 1) a0 h := by
  obtain ⟨m, rfl⟩ : ∃ q, m = q + 1 := ⟨m - 1, by omega⟩
  rw [run_succ t1_80, e80]; rfl
theorem t1_r81 {m : Nat} (hm : 0 < m) (a0 : Val) (a1 : Val) (a2 : Val) (h : Heap) : run t1.get m 81 [a0, a1, a2] h = s81 (run t1.get (m - 1)) (m - 1) a0 a1 a2 h := by
  obtain ⟨m, rfl⟩ : ∃ q, m = q + 1 := ⟨m - 1, by omega⟩
  rw [run_succ t1_81, e81]; rfl
theorem t1_r83 {m : Nat} (hm : 0 < m) (a0 : Val) (a1 : Val) (a2 : Val) (h : Heap) : run t1.get m 83 [a0, a1, a2] h = s83 (run t1.get (m - 1)) (m - 1) a0 a1 a2 h := by
  obtain ⟨m, rfl⟩ : ∃ q, m = q + 1 := ⟨m - 1, by omega⟩
  rw [run_succ t1_83, e83]; rfl
theorem t1_r84 {m : Nat} (hm : 0 < m) (a0 : Val) (h : Heap) : run t1.get m 84 [a0] h = s84 (run t1.get (m - 1)) (m - 1) a0 h := by
  obtain ⟨m, rfl⟩ : ∃ q, m = q + 1 := ⟨m - 1, by omega⟩
  rw [run_succ t1_84, e84]; rfl
theorem t1_r87 {m : Nat} (hm : 0 < m) (a0 : Val) (h : Heap) : run t1.get m 87 [a0] h = s87 (run t1.get (m - 1)) (m - 1) a0 h := by
  obtain ⟨m, rfl⟩ : ∃ q, m = q + 1 := ⟨m - 1, by omega⟩
  rw [run_succ t1_87, e87]; rfl
theorem t1_r88 {m : Nat} (hm : 0 < m) (xs : List Val) (h : Heap) : run t1.get m 88 xs h = pRepeat xs h := by
  obtain ⟨m, rfl⟩ : ∃ q, m = q + 1 := ⟨m - 1, by omega⟩
  rw [run_succ t1_88]; rfl
theorem t1_r104 {m : Nat} (hm : 0 < m) (a0 : Val) (h : Heap) : run t1.get m 104 [a0] h = s104 (run t1.get (m - 1)) (m - 1) a0 h := by
  obtain ⟨m, rfl⟩ : ∃ q, m = q + 1 := ⟨m - 1, by omega⟩
  rw [run_succ t1_104, e104]; rfl
theorem t1_r115 {m : Nat} (hm : 0 < m) (xs : List Val) (h : Heap) : run t1.get m 115 xs h = ((sumF gRRead)) xs h := by
  obtain ⟨m, rfl⟩ : ∃ q, m = q + 1 := ⟨m - 1, by omega⟩
  rw [run_succ t1_115]; rfl
theorem t1_r116 {m : Nat} (hm : 0 < m) (xs : List Val) (h : Heap) : run t1.get m 116 xs h = ((sumF gRFixed)) xs h := by
  obtain ⟨m, rfl⟩ : ∃ q, m = q + 1 := ⟨m - 1, by omega⟩
  rw [run_succ t1_116]; rfl
theorem t1_r117 {m : Nat} (hm : 0 < m) (xs : List Val) (h : Heap) : run t1.get m 117 xs h = ((sumF gCrc)) xs h := by
  obtain ⟨m, rfl⟩ : ∃ q, m = q + 1 := ⟨m - 1, by omega⟩
  rw [run_succ t1_117]; rfl
theorem t1_r118 {m : Nat} (hm : 0 < m) (a0 : Val) (h : Heap) : run t1.get m 118 [a0] h = s118 (run t1.get (m - 1)) (m - 1) a0 h := by
  obtain ⟨m, rfl⟩ : ∃ q, m = q + 1 := ⟨m - 1, by omega⟩
  rw [run_succ t1_118, e118]; rfl
theorem t1_r119 {m : Nat} (hm : 0 < m) (a0 : Val) (a1 : Val) (a2 : Val) (a3 : Val) (h : Heap) : run t1.get m 119 [a0, a1, a2, a3] h = s119 (run t1.get (m - 1)) (m - 1) a0 a1 a2 a3 h := by
  obtain ⟨m, rfl⟩ : ∃ q, m = q + 1 := ⟨m - 1, by omega⟩
  rw [run_succ t1_119, e119]; rfl
theorem t1_r123 {m : Nat} (hm : 0 < m) (a0 : Val) (h : Heap) : run t1.get m 123 [a0] h = s123 (run t1.get (m - 1)) (m - 1) a0 h := by
  obtain ⟨m, rfl⟩ : ∃ q, m = q + 1 := ⟨m - 1, by omega⟩
  rw [run_succ t1_123, e123]; rfl
theorem t1_r124 {m : Nat} (hm : 0 < m) (a0 : Val) (h : Heap) : run t1.get m 124 [a0] h = s124 (run t1.get (m - 1)) (m - 1) a0 h := by
  obtain ⟨m, rfl⟩ : ∃ q, m = q + 1 := ⟨m - 1, by omega⟩
  rw [run_succ t1_124, e124]; rfl
theorem t1_r126 {m : Nat} (hm : 0 < m) (a0 : Val) (h : Heap) : run t1.get m 126 [a0] h = s126 (run t1.get (m - 1)) (m - 1) a0 h := by
  obtain ⟨m, rfl⟩ : ∃ q, m = q + 1 := ⟨m - 1, by omega⟩
  rw [run_succ t1_126, e126]; rfl
theorem t1_r127 {m : Nat} (hm : 0 < m) (a0 : Val) (a1 : Val) (a2 : Val) (h : Heap) : run t1.get m 127 [a0, a1, a2] h = s127 (run t1.get (m - 1)) (m - 1) a0 a1 a2 h := by
  obtain ⟨m, rfl⟩ : ∃ q, m = q + 1 := ⟨m - 1, by omega⟩
  rw [run_succ t1_127, e127]; rfl
theorem t1_r129 {m : Nat} (hm : 0 < m) (a0 : Val) (h : Heap) : run t1.get m 129 [a0] h = s129 (run t1.get (m - 1)) (m - 1) a0 h := by
  obtain ⟨m, rfl⟩ : ∃ q, m = q + 1 := ⟨m - 1, by omega⟩
  rw [run_succ t1_129, e129]; rfl
theorem t1_r130 {m : Nat} (hm : 0 < m) (a0 : Val) (a1 : Val) (h : Heap) : run t1.get m 130 [a0, a1] h = s130 (run t1.get (m - 1)) (m - 1) a0 a1 h := by
  obtain ⟨m, rfl⟩ : ∃ q, m = q + 1 := ⟨m - 1, by omega⟩
  rw [run_succ t1_130, e130]; rfl
theorem t1_r131 {m : Nat} (hm : 0 < m) (a0 : Val) (a1 : Val) (a2 : Val) (h : Heap) : run t1.get m 131 [a0, a1, a2] h = s131 (run t1.get (m - 1)) (m - 1) a0 a1 a2 h := by
  obtain ⟨m, rfl⟩ : ∃ q, m = q + 1 := ⟨m - 1, by omega⟩
  rw [run_succ t1_131, e131]; rfl
theorem t1_r132 {m : Nat} (hm : 0 < m) (a0 : Val) (a1 : Val) (a2 : Val) (h : Heap) : run t1.get m 132 [a0, a1, a2] h = s132 (run t1.get (m - 1)) (m - 1) a0 a1 a2 h := by
  obtain ⟨m, rfl⟩ : ∃ q, m = q + 1 := ⟨m - 1, by omega⟩
  rw [run_succ t1_132, e132]; rfl
theorem t1_r133 {m : Nat} (hm : 0 < m) (a0 : Val) (h : Heap) : run t1.get m 133 [a0] h = s133 (run t1.get (m - 1)) (m - 1) a0 h := by
  obtain ⟨m, rfl⟩ : ∃ q, m = q + 1 := ⟨m - 1, by omega⟩
  rw [run_succ t1_133, e133]; rfl
theorem t1_r134 {m : Nat} (hm : 0 < m) (xs : List Val) (h : Heap) : run t1.get m 134 xs h = ((sumF gFixed)) xs h := by
  obtain ⟨m, rfl⟩ : ∃ q, m = q + 1 := ⟨m - 1, by omega⟩
  rw [run_succ t1_134]; rfl
theorem t1_r135 {m : Nat} (hm : 0 < m) (xs : List Val) (h : Heap) : run t1.get m 135 xs h = ((sumF gCrc)) xs h := by
  obtain ⟨m, rfl⟩ : ∃ q, m = q + 1 := ⟨m - 1, by omega⟩
  rw [run_succ t1_135]; rfl
theorem t1_r155 {m : Nat} (hm : 0 < m) (xs : List Val) (h : Heap) : run t1.get m 155 xs h = ((sumF gRead)) xs h := by
  obtain ⟨m, rfl⟩ : ∃ q, m = q + 1 := ⟨m - 1, by omega⟩
  rw [run_succ t1_155]; rfl
theorem t1_r156 {m : Nat} (hm : 0 < m) (a0 : Val) (h : Heap) : run t1.get m 156 [a0] h = s156 (run t1.get (m - 1)) (m - 1) a0 h := by
  obtain ⟨m, rfl⟩ : ∃ q, m = q + 1 := ⟨m - 1, by omega⟩
  rw [run_succ t1_156, e156]; rfl
theorem t1_r157 {m : Nat} (hm : 0 < m) (xs : List Val) (h : Heap) : run t1.get m 157 xs h = ((sumF gAll)) xs h := by
  obtain ⟨m, rfl⟩ : ∃ q, m = q + 1 := ⟨m - 1, by omega⟩
  rw [run_succ t1_157]; rfl
theorem t1_r158 {m : Nat} (hm : 0 < m) (a0 : Val) (a1 : Val) (h : Heap) : run t1.get m 158 [a0, a1] h = s158 (run t1.get (m - 1)) (m - 1) a0 a1 h := by
  obtain ⟨m, rfl⟩ : ∃ q, m = q + 1 := ⟨m - 1, by omega⟩
  rw [run_succ t1_158, e158]; rfl
def fsum (st at_ : Nat) (body : List UInt8) : Nat := crc 0 [be 4 st, be 2 at_, be 2 body.length, body].flatten
def encF (st at_ : Nat) (body : List UInt8) : List UInt8 := be 2 body.length ++ be 4 (fsum st at_ body) ++ body
def okPlace (a : Int) : Bool := decide (1 ≤ a) && decide (a < 16)
def many (n : Nat) : Nat := (n + 51) / 52
theorem fsum_lt (st at_ : Nat) (body : List UInt8) : fsum st at_ body < 4294967296 := crc_lt _ _
theorem encF_len (st at_ : Nat) (body : List UInt8) : (encF st at_ body).length = 6 + body.length := by simp [encF, be_len]; omega
section
variable {m : Nat} {h : Heap}
theorem t1_ffixed {v n : Nat} (hm : 3 ≤ m) (h1 : 1 ≤ n) (h8 : n ≤ 8) (hv : v < 256 ^ n) (h : Heap) : run t1.get m 130 [.int .i64 v, .int .i64 n] h = some (.str (be n v), h) := by
  rw [t1_r130 (by omega)]
  have hp := pow256 h8
  have e : ∀ K, clC (run t1.get (m - 1)) 134 [.int .u64 (v : Int), .int .i64 (n : Int)] h K = K (.tup [.str (be n v), .int .i64 0]) h := fun K => clC_of (by rw [t1_r134 (by omega)]; exact p_fixed h1 h8 hv)
  simp only [s130, cviC_i, wrap_u64 (show (0 : Int) ≤ v by omega) (show (v : Int) < 18446744073709551616 by omega), e, exC_0, exC_1]
theorem t1_fsum {st a : Nat} {body : List UInt8} (hm : 5 ≤ m) (h1 : st < 4294967296) (h2 : a < 65536) (h3 : body.length < 65536) (h : Heap) : run t1.get m 131 [.int .u32 st, .int .i64 a, .str body] h = some (.int .u32 (fsum st a body : Nat), h) := by
  rw [t1_r131 (by omega)]
  have e1 : ∀ K, clC (run t1.get (m - 1)) 130 [.int .i64 (st : Int), .int .i64 4] h K = K (.str (be 4 st)) h := fun K => clC_of (t1_ffixed (n := 4) (by omega) (by omega) (by omega) (by omega) h)
  have e2 : ∀ K, clC (run t1.get (m - 1)) 130 [.int .i64 (a : Int), .int .i64 2] h K = K (.str (be 2 a)) h := fun K => clC_of (t1_ffixed (n := 2) (by omega) (by omega) (by omega) (by omega) h)
  have e3 : ∀ K, clC (run t1.get (m - 1)) 130 [.int .i64 (body.length : Int), .int .i64 2] h K = K (.str (be 2 body.length)) h := fun K => clC_of (t1_ffixed (n := 2) (by omega) (by omega) (by omega) (by omega) h)
  have e4 : ∀ K, bslC 1 [.str (be 4 st), .str (be 2 a), .str (be 2 body.length), .str body] K = K (.sl .ex 1 ([be 4 st, be 2 a, be 2 body.length, body].map Val.str)) := fun K => rfl
  have e5 : ∀ K, clC (run t1.get (m - 1)) 157 [.sl .ex 1 ([be 4 st, be 2 a, be 2 body.length, body].map Val.str)] h K = K (.int .u32 (fsum st a body : Nat)) h := fun K => clC_of (by
    rw [t1_r157 (by omega)]
    exact p_all (by simp) (by
      intro x hx
      simp only [List.mem_cons, List.not_mem_nil, or_false] at hx
      rcases hx with rfl | rfl | rfl | rfl
      · rw [be_len]; decide
      · rw [be_len]; decide
      · rw [be_len]; decide
      · omega))
  simp only [s131, cviC_i, wrap_i64 (show (-9223372036854775808 : Int) ≤ st by omega) (show (st : Int) < 9223372036854775808 by omega), e1, e2, lensC_s, e3, e4, e5]
theorem t1_place {a : Int} (hm : 2 ≤ m) (h : Heap) : run t1.get m 129 [.int .i64 a] h = some (.bool (okPlace a), h) := by
  rw [t1_r129 (by omega)]
  by_cases h1 : 1 ≤ a
  · by_cases h2 : a < 16 <;> simp [s129, okPlace, h1, h2]
  · simp [s129, okPlace, h1]
theorem t1_number {s : List UInt8} (hm : 3 ≤ m) (h1 : 1 ≤ s.length) (h8 : s.length ≤ 7) (h : Heap) : run t1.get m 156 [.str s] h = some (.int .i64 (rd 0 s : Nat), h) := by
  rw [t1_r156 (by omega)]
  have e : ∀ K, clC (run t1.get (m - 1)) 155 [.str s] h K = K (.tup [.int .u64 (rd 0 s : Nat), .int .i64 0]) h := fun K => clC_of (by rw [t1_r155 (by omega)]; exact p_read h1 (by omega))
  have hl := rd_lt s 0 0 (by decide)
  have hp := pow256' h8
  rw [Nat.zero_add] at hl
  simp only [s156, e, exC_0, exC_1, cviC_i, wrap_i64 (show (-9223372036854775808 : Int) ≤ (rd 0 s : Nat) by omega) (show ((rd 0 s : Nat) : Int) < 9223372036854775808 by omega)]
theorem t1_many {n : Nat} (hm : 2 ≤ m) (hn : n < 1000000000) (h : Heap) : run t1.get m 104 [.int .i64 n] h = some (.int .i64 (many n : Nat), h) := by
  rw [t1_r104 (by omega)]
  by_cases h0 : n = 0
  · subst h0; rfl
  · have e7 : icmp .lt (n : Int) 1 = false := decide_eq_false (by omega)
    have e1 : IntKind.i64.wrap ((n : Int) - 1) = ((n - 1 : Nat) : Int) := i64sub (b := 1) (by omega) (by omega)
    have e2 : IntKind.i64.wrap (((n - 1 : Nat) : Int).tdiv 52) = (((n - 1) / 52 : Nat) : Int) := by
      rw [Int.tdiv_eq_ediv_of_nonneg (by omega), wrap_i64 (by omega) (by omega)]; rfl
    have e3 : many n = (n - 1) / 52 + 1 := by unfold many; omega
    simp only [s104, cmC_int, e7, cnd_f, biC_sub, e1, biC_quo (show (52 : Int) ≠ 0 by decide), e2, biC_add, i64s (show (n - 1) / 52 < 9223372036854775807 by omega), e3]
theorem t1_encode_bad {st a k : Int} {p : List UInt8} (hm : 3 ≤ m) (hbad : k < 1 ∨ 255 < k ∨ okPlace a = false) (h : Heap) :
    ∃ h', run t1.get m 83 [.int .u32 st, .int .i64 a, .agg [.int .i64 k, .str p]] h = some (.tup [.str [], .int .i64 1], h') := by
  refine ⟨h.add (.cells [.int .i64 k, .str p]), ?_⟩
  rw [t1_r83 (by omega)]
  have hb : (h.add (.cells [.int .i64 k, .str p])).blk h.next = some (.cells [.int .i64 k, .str p]) := blk_add_same _
  have l0 : ∀ K, ldC false 1 (.ptr h.next 0) (h.add (.cells [.int .i64 k, .str p])) K = K (.int .i64 k) := fun K => by rw [ldC_p hb (by simp)]; rfl
  simp only [s83, boxC_e (z := 2) (v := .agg [.int .i64 k, .str p]) rfl, cells_agg, faC_p, Nat.add_zero, l0, cmC_int, icmp_lt, icmp_gt]
  by_cases h1 : k < 1
  · simp only [h1, decide_true, gdC_tf, gdC_u, pickC_t, cnd_t]
  · by_cases h2 : 255 < k
    · simp only [h1, h2, decide_false, decide_true, gdC_ff, elim_some, gdC_tf, gdC_u, pickC_f, pickC_t, cnd_t, l0, cmC_int, icmp_gt]
    · have h3 : okPlace a = false := by
        rcases hbad with h | h | h
        · exact absurd h h1
        · exact absurd h h2
        · exact h
      simp only [h1, h2, decide_false, gdC_ff, elim_some, pickC_f, l0, cmC_int, icmp_gt, clC_of (t1_place (m := m - 1) (a := a) (by omega) _), h3, notC_b, Bool.not_false, cnd_t]
theorem t1_encode_long {st a k : Int} {p : List UInt8} (hm : 3 ≤ m) (h1 : 1 ≤ k) (h2 : k ≤ 255) (h3 : okPlace a = true) (h4 : 773 < p.length) (h : Heap) :
    ∃ h', run t1.get m 83 [.int .u32 st, .int .i64 a, .agg [.int .i64 k, .str p]] h = some (.tup [.str [], .int .i64 2], h') := by
  refine ⟨h.add (.cells [.int .i64 k, .str p]), ?_⟩
  rw [t1_r83 (by omega)]
  have hb : (h.add (.cells [.int .i64 k, .str p])).blk h.next = some (.cells [.int .i64 k, .str p]) := blk_add_same _
  have l0 : ∀ K, ldC false 1 (.ptr h.next 0) (h.add (.cells [.int .i64 k, .str p])) K = K (.int .i64 k) := fun K => by rw [ldC_p hb (by simp)]; rfl
  have l1 : ∀ K, ldC false 1 (.ptr h.next 1) (h.add (.cells [.int .i64 k, .str p])) K = K (.str p) := fun K => by rw [ldC_p hb (by simp)]; rfl
  have c1 : icmp .lt k 1 = false := decide_eq_false (by omega)
  have c2 : icmp .gt k 255 = false := decide_eq_false (by omega)
  have c3 : icmp .gt (p.length : Int) 773 = true := decide_eq_true (by omega)
  simp only [s83, boxC_e (z := 2) (v := .agg [.int .i64 k, .str p]) rfl, cells_agg, faC_p, Nat.add_zero, Nat.zero_add, l0, l1, cmC_int, c1, c2, c3, gdC_ff, elim_some, pickC_f, clC_of (t1_place (m := m - 1) (a := a) (by omega) _), h3, notC_b, Bool.not_true, cnd_f, lensC_s, cnd_t]
theorem t1_encode {st a k : Nat} {p : List UInt8} (hm : 9 ≤ m) (hst : st < 4294967296) (h1 : 1 ≤ k) (h2 : k ≤ 255) (h3 : okPlace a = true) (h4 : p.length ≤ 773) (h : Heap) :
    ∃ h', run t1.get m 83 [.int .u32 st, .int .i64 a, .agg [.int .i64 k, .str p]] h = some (.tup [.str (encF st a (UInt8.ofNat k :: p)), .int .i64 0], h') := by
  refine ⟨h.add (.cells [.int .i64 k, .str p]), ?_⟩
  rw [t1_r83 (by omega)]
  generalize hG : h.add (.cells [.int .i64 k, .str p]) = G
  have hb : G.blk h.next = some (.cells [.int .i64 k, .str p]) := by rw [← hG]; exact blk_add_same _
  have l0 : ∀ K, ldC false 1 (.ptr h.next 0) G K = K (.int .i64 k) := fun K => by rw [ldC_p hb (by simp)]; rfl
  have l1 : ∀ K, ldC false 1 (.ptr h.next 1) G K = K (.str p) := fun K => by rw [ldC_p hb (by simp)]; rfl
  have c1 : icmp .lt (k : Int) 1 = false := decide_eq_false (by omega)
  have c2 : icmp .gt (k : Int) 255 = false := decide_eq_false (by omega)
  have c3 : icmp .gt (p.length : Int) 773 = false := decide_eq_false (by omega)
  have ha : a < 16 := by simp only [okPlace, Bool.and_eq_true, decide_eq_true_eq] at h3; omega
  have w1 : IntKind.u8.wrap (k : Int) = (k : Int) := wrap_u8 (by omega) (by omega)
  have e1 : ∀ K, bslC 1 [.int .u8 (k : Int)] K = K (.sl .ex 1 [.int .u8 (k : Int)]) := fun K => rfl
  have e2 : ∀ K, cvsC (.sl .ex 1 [.int .u8 (k : Int)]) G K = K (.str [UInt8.ofNat k]) := fun K => cvsC_sl (by simp only [bytesOf, byteOf_i, Int.toNat_natCast])
  have e3 : ∀ K, addSC (.str [UInt8.ofNat k]) (.str p) K = K (.str (UInt8.ofNat k :: p)) := fun K => by rw [addSC_s _ _ (by simp; omega)]; rfl
  have hbl : (UInt8.ofNat k :: p).length = p.length + 1 := rfl
  have e4 : ∀ K, clC (run t1.get (m - 1)) 130 [.int .i64 ((UInt8.ofNat k :: p).length : Int), .int .i64 2] G K = K (.str (be 2 (UInt8.ofNat k :: p).length)) G := fun K => clC_of (t1_ffixed (n := 2) (by omega) (by omega) (by omega) (by rw [hbl]; omega) G)
  have e5 : ∀ K, clC (run t1.get (m - 1)) 131 [.int .u32 (st : Int), .int .i64 (a : Int), .str (UInt8.ofNat k :: p)] G K = K (.int .u32 (fsum st a (UInt8.ofNat k :: p) : Nat)) G := fun K => clC_of (t1_fsum (by omega) hst (by omega) (by rw [hbl]; omega) G)
  have hf := fsum_lt st a (UInt8.ofNat k :: p)
  have w2 : IntKind.i64.wrap ((fsum st a (UInt8.ofNat k :: p) : Nat) : Int) = ((fsum st a (UInt8.ofNat k :: p) : Nat) : Int) := wrap_i64 (by omega) (by omega)
  have e6 : ∀ K, clC (run t1.get (m - 1)) 130 [.int .i64 ((fsum st a (UInt8.ofNat k :: p) : Nat) : Int), .int .i64 4] G K = K (.str (be 4 (fsum st a (UInt8.ofNat k :: p)))) G := fun K => clC_of (t1_ffixed (n := 4) (by omega) (by omega) (by omega) (by omega) G)
  have e7 : ∀ K, addSC (.str (be 2 (UInt8.ofNat k :: p).length)) (.str (be 4 (fsum st a (UInt8.ofNat k :: p)))) K = K (.str (be 2 (UInt8.ofNat k :: p).length ++ be 4 (fsum st a (UInt8.ofNat k :: p)))) := fun K => addSC_s _ _ (by simp [be_len])
  have e8 : ∀ K, addSC (.str (be 2 (UInt8.ofNat k :: p).length ++ be 4 (fsum st a (UInt8.ofNat k :: p)))) (.str (UInt8.ofNat k :: p)) K = K (.str (encF st a (UInt8.ofNat k :: p))) := fun K => addSC_s _ _ (by simp [be_len]; omega)
  simp only [s83, boxC_e (z := 2) (v := .agg [.int .i64 k, .str p]) rfl, cells_agg, hG, faC_p, Nat.add_zero, Nat.zero_add, l0, l1, cmC_int, c1, c2, c3, gdC_ff, elim_some, pickC_f, clC_of (t1_place (m := m - 1) (a := (a : Int)) (by omega) _), h3, notC_b, Bool.not_true, cnd_f, lensC_s, cviC_i, w1, e1, e2, e3, e4, e5, w2, e6, e7, e8]
 end
end Go.AM.T
set_option maxRecDepth 100000
set_option linter.unusedVariables false
set_option linter.unusedSimpArgs false
namespace Go.AM.T
open Go Go.AM
theorem rd_snoc (s : List UInt8) (b : UInt8) (v : Nat) : rd v (s ++ [b]) = 256 * rd v s + b.toNat := by simp [rd]
theorem be_rd : ∀ (n : Nat) (s : List UInt8), s.length = n → be n (rd 0 s) = s
  | 0, s, h => by have := List.eq_nil_of_length_eq_zero h; subst this; rfl
  | n + 1, s, h => by
    obtain ⟨t, b, rfl⟩ : ∃ t b, s = t ++ [b] := by
      have : s ≠ [] := by intro e; subst e; simp at h
      exact ⟨s.dropLast, s.getLast this, (List.dropLast_concat_getLast this).symm⟩
    have hb := b.toNat_lt
    rw [rd_snoc, be, show (256 * rd 0 t + b.toNat) / 256 = rd 0 t by omega, be_rd n t (by simpa using h), show (256 * rd 0 t + b.toNat) % 256 = b.toNat by omega]
    simp
theorem rd_be : ∀ (n v : Nat), v < 256 ^ n → rd 0 (be n v) = v
  | 0, v, h => by have : v = 0 := by simpa using h
                  subst this; rfl
  | n + 1, v, h => by
    rw [be, rd_snoc, rd_be n (v / 256) (by rw [Nat.pow_succ] at h; omega), toNat_ofNat_mod]; omega
theorem rd2 {s : List UInt8} (h : 2 ≤ s.length) : rd 0 (s.take 2) = 256 * s[0].toNat + s[1].toNat := by
  match s, h with
  | a :: b :: l, _ => simp [rd]
def decM (st a : Nat) (s : List UInt8) : Nat × List UInt8 × Nat × Nat :=
  if s.length < 2 then (0, [], 0, 3) else
  let n := rd 0 (s.take 2)
  if n = 0 then (0, [], 0, 6) else
  if 774 < n then (0, [], 0, 2) else
  if s.length < 6 + n then (0, [], 0, 3) else
  let body := (s.take (6 + n)).drop 6
  if body.head?.getD 0 = 0 ∨ rd 0 ((s.take 6).drop 2) ≠ fsum st a body then (0, [], 0, 4) else ((body.head?.getD 0).toNat, body.drop 1, 6 + n, 0)
def decV (r : Nat × List UInt8 × Nat × Nat) : Val := .tup [.agg [.int .i64 r.1, .str r.2.1], .int .i64 r.2.2.1, .int .i64 r.2.2.2]
def decR (r : Nat × List UInt8 × Nat × Nat) : Val := .agg [.int .i64 r.1, .str r.2.1, .int .i64 r.2.2.1, .int .i64 r.2.2.2]
section
variable {m : Nat} {h : Heap}
theorem t1_decode {st a : Nat} {s : List UInt8} (hm : 9 ≤ m) (hst : st < 4294967296) (ha : okPlace a = true) (hs : s.length < 60000) (h : Heap) :
    ∃ h', run t1.get m 127 [.int .u32 st, .int .i64 a, .str s] h = some (decV (decM st a s), h') := by
  rw [t1_r127 (by omega)]
  have c1 : ∀ G, run t1.get (m - 1) 129 [.int .i64 (a : Int)] G = some (.bool true, G) := fun G => by rw [t1_place (by omega), ha]
  have ha' : a < 16 := by simp only [okPlace, Bool.and_eq_true, decide_eq_true_eq] at ha; omega
  by_cases f1 : s.length < 2
  · have g1 : (s.length : Int) < 2 := by omega
    refine ⟨?_, ?_⟩
    rotate_left
    · simp (disch := omega) only [↓cmC_int, ↓cmC_str, ↓biC_add, ↓biC_sub, ↓biC_mul, ↓notC_b, ↓negC_i, ↓cviC_i, ↓cssC_s, ↓cnd_t, ↓cnd_f, ↓pickC_t, ↓pickC_f, ↓gdC_tt, ↓gdC_ff, ↓gdC_tf, ↓gdC_ft, ↓gdC_u, ↓elim_some, ↓exC_0, ↓exC_1, ↓exC_2, ↓exC_3, ↓lensC_s, ↓lenlC_s, ↓lenlC_m, ↓mnC_i, ↓mxC_i, ↓getN_0, ↓getN_s, ↓allocC_e, ↓nilC_p, ↓nilC_e, ↓nilC_f, ↓faC_p, ↓ldC_m, ↓ldK_some, ↓stC_m, ↓stK_some, ↓boxC_m, ↓aggC_m, ↓shC_shrN, ↓ixpC_p, ↓addSC_s, ↓iter_succ, ↓if_true, ↓if_false, ↓reduceIte, shC_shrN, ixpC_p, addSC_s, icmp_eq, icmp_ne, icmp_lt, icmp_le, icmp_gt, icmp_ge, decide_true, decide_false, Bool.not_true, Bool.not_false, Bool.true_and, Bool.and_true, Bool.false_and, Bool.and_false, wrap_i64, wrap_u64, wrap_u32, wrap_u8, cs_put, cs_add, Heap.next_put, Heap.next_add, cells_int, cells_str, cells_bool, cells_ptr, cells_sl, cells_ms, cells_nilp, cells_func, cells_agg, mk_t, mk_f, putA, putN, cond_true, cond_false, Nat.beq_refl, Option.map_some, List.length_cons, List.length_nil, List.drop_succ_cons, List.drop_zero, List.drop_nil, List.take_succ_cons, List.take_zero, List.take_nil, List.cons_append, List.nil_append, List.append_nil, Nat.zero_add, Nat.add_zero, Int.toNat_natCast, Int.toNat_zero, Int.toNat_one, ne_eq, not_true_eq_false, not_false_eq_true, and_self, and_true, true_and, eq_self, Nat.reduceAdd, Nat.reduceLeDiff, Nat.reduceMul, Nat.reduceSub, Nat.left_eq_add, Nat.add_eq_left, Nat.reduceEqDiff, Nat.one_ne_zero, s127, ↓clC_of (c1 _), g1]
      simp only [decM, f1, if_true, decV]
      rfl
  have g1 : ¬ ((s.length : Int) < 2) := by omega
  have c2 : ∀ G, run t1.get (m - 1) 156 [.str (s.take 2)] G = some (.int .i64 (rd 0 (s.take 2) : Nat), G) := fun G => t1_number (by omega) (by simp; omega) (by simp; omega) G
  have b1 := rd_lt (s.take 2) 0 0 (by decide)
  have b2 : 256 ^ (0 + (s.take 2).length) = 65536 := by rw [List.length_take, Nat.min_eq_left (by omega)]
  rw [b2] at b1
  generalize hn : rd 0 (s.take 2) = n at *
  have t2 : ∀ K, slsC (.str s) none (some (.int .i64 2)) K = K (.str (s.take 2)) := fun K => slsC_none_some (by decide) (by omega)
  by_cases f2 : n = 0
  · have g2 : (n : Int) = 0 := by omega
    refine ⟨?_, ?_⟩
    rotate_left
    · simp (disch := omega) only [↓cmC_int, ↓cmC_str, ↓biC_add, ↓biC_sub, ↓biC_mul, ↓notC_b, ↓negC_i, ↓cviC_i, ↓cssC_s, ↓cnd_t, ↓cnd_f, ↓pickC_t, ↓pickC_f, ↓gdC_tt, ↓gdC_ff, ↓gdC_tf, ↓gdC_ft, ↓gdC_u, ↓elim_some, ↓exC_0, ↓exC_1, ↓exC_2, ↓exC_3, ↓lensC_s, ↓lenlC_s, ↓lenlC_m, ↓mnC_i, ↓mxC_i, ↓getN_0, ↓getN_s, ↓allocC_e, ↓nilC_p, ↓nilC_e, ↓nilC_f, ↓faC_p, ↓ldC_m, ↓ldK_some, ↓stC_m, ↓stK_some, ↓boxC_m, ↓aggC_m, ↓shC_shrN, ↓ixpC_p, ↓addSC_s, ↓iter_succ, ↓if_true, ↓if_false, ↓reduceIte, shC_shrN, ixpC_p, addSC_s, icmp_eq, icmp_ne, icmp_lt, icmp_le, icmp_gt, icmp_ge, decide_true, decide_false, Bool.not_true, Bool.not_false, Bool.true_and, Bool.and_true, Bool.false_and, Bool.and_false, wrap_i64, wrap_u64, wrap_u32, wrap_u8, cs_put, cs_add, Heap.next_put, Heap.next_add, cells_int, cells_str, cells_bool, cells_ptr, cells_sl, cells_ms, cells_nilp, cells_func, cells_agg, mk_t, mk_f, putA, putN, cond_true, cond_false, Nat.beq_refl, Option.map_some, List.length_cons, List.length_nil, List.drop_succ_cons, List.drop_zero, List.drop_nil, List.take_succ_cons, List.take_zero, List.take_nil, List.cons_append, List.nil_append, List.append_nil, Nat.zero_add, Nat.add_zero, Int.toNat_natCast, Int.toNat_zero, Int.toNat_one, ne_eq, not_true_eq_false, not_false_eq_true, and_self, and_true, true_and, eq_self, Nat.reduceAdd, Nat.reduceLeDiff, Nat.reduceMul, Nat.reduceSub, Nat.left_eq_add, Nat.add_eq_left, Nat.reduceEqDiff, Nat.one_ne_zero, s127, ↓clC_of (c1 _), g1, ↓t2, ↓clC_of (c2 _), g2]
      simp only [decM, f1, if_false, hn, f2, if_true, decV]
      rfl
  have g2 : ¬ ((n : Int) = 0) := by omega
  by_cases f3 : 774 < n
  · have g3 : (774 : Int) < (n : Int) := by omega
    refine ⟨?_, ?_⟩
    rotate_left
    · simp (disch := omega) only [↓cmC_int, ↓cmC_str, ↓biC_add, ↓biC_sub, ↓biC_mul, ↓notC_b, ↓negC_i, ↓cviC_i, ↓cssC_s, ↓cnd_t, ↓cnd_f, ↓pickC_t, ↓pickC_f, ↓gdC_tt, ↓gdC_ff, ↓gdC_tf, ↓gdC_ft, ↓gdC_u, ↓elim_some, ↓exC_0, ↓exC_1, ↓exC_2, ↓exC_3, ↓lensC_s, ↓lenlC_s, ↓lenlC_m, ↓mnC_i, ↓mxC_i, ↓getN_0, ↓getN_s, ↓allocC_e, ↓nilC_p, ↓nilC_e, ↓nilC_f, ↓faC_p, ↓ldC_m, ↓ldK_some, ↓stC_m, ↓stK_some, ↓boxC_m, ↓aggC_m, ↓shC_shrN, ↓ixpC_p, ↓addSC_s, ↓iter_succ, ↓if_true, ↓if_false, ↓reduceIte, shC_shrN, ixpC_p, addSC_s, icmp_eq, icmp_ne, icmp_lt, icmp_le, icmp_gt, icmp_ge, decide_true, decide_false, Bool.not_true, Bool.not_false, Bool.true_and, Bool.and_true, Bool.false_and, Bool.and_false, wrap_i64, wrap_u64, wrap_u32, wrap_u8, cs_put, cs_add, Heap.next_put, Heap.next_add, cells_int, cells_str, cells_bool, cells_ptr, cells_sl, cells_ms, cells_nilp, cells_func, cells_agg, mk_t, mk_f, putA, putN, cond_true, cond_false, Nat.beq_refl, Option.map_some, List.length_cons, List.length_nil, List.drop_succ_cons, List.drop_zero, List.drop_nil, List.take_succ_cons, List.take_zero, List.take_nil, List.cons_append, List.nil_append, List.append_nil, Nat.zero_add, Nat.add_zero, Int.toNat_natCast, Int.toNat_zero, Int.toNat_one, ne_eq, not_true_eq_false, not_false_eq_true, and_self, and_true, true_and, eq_self, Nat.reduceAdd, Nat.reduceLeDiff, Nat.reduceMul, Nat.reduceSub, Nat.left_eq_add, Nat.add_eq_left, Nat.reduceEqDiff, Nat.one_ne_zero, s127, ↓clC_of (c1 _), g1, ↓t2, ↓clC_of (c2 _), g2, g3]
      simp only [decM, f1, if_false, hn, f2, f3, if_true, decV]
      rfl
  have g3 : ¬ ((774 : Int) < (n : Int)) := by omega
  have e4 : (6 : Int) + (n : Int) = ((6 + n : Nat) : Int) := by omega
  by_cases f4 : s.length < 6 + n
  · have g4 : (s.length : Int) < ((6 + n : Nat) : Int) := by omega
    refine ⟨?_, ?_⟩
    rotate_left
    · simp (disch := omega) only [↓cmC_int, ↓cmC_str, ↓biC_add, ↓biC_sub, ↓biC_mul, ↓notC_b, ↓negC_i, ↓cviC_i, ↓cssC_s, ↓cnd_t, ↓cnd_f, ↓pickC_t, ↓pickC_f, ↓gdC_tt, ↓gdC_ff, ↓gdC_tf, ↓gdC_ft, ↓gdC_u, ↓elim_some, ↓exC_0, ↓exC_1, ↓exC_2, ↓exC_3, ↓lensC_s, ↓lenlC_s, ↓lenlC_m, ↓mnC_i, ↓mxC_i, ↓getN_0, ↓getN_s, ↓allocC_e, ↓nilC_p, ↓nilC_e, ↓nilC_f, ↓faC_p, ↓ldC_m, ↓ldK_some, ↓stC_m, ↓stK_some, ↓boxC_m, ↓aggC_m, ↓shC_shrN, ↓ixpC_p, ↓addSC_s, ↓iter_succ, ↓if_true, ↓if_false, ↓reduceIte, shC_shrN, ixpC_p, addSC_s, icmp_eq, icmp_ne, icmp_lt, icmp_le, icmp_gt, icmp_ge, decide_true, decide_false, Bool.not_true, Bool.not_false, Bool.true_and, Bool.and_true, Bool.false_and, Bool.and_false, wrap_i64, wrap_u64, wrap_u32, wrap_u8, cs_put, cs_add, Heap.next_put, Heap.next_add, cells_int, cells_str, cells_bool, cells_ptr, cells_sl, cells_ms, cells_nilp, cells_func, cells_agg, mk_t, mk_f, putA, putN, cond_true, cond_false, Nat.beq_refl, Option.map_some, List.length_cons, List.length_nil, List.drop_succ_cons, List.drop_zero, List.drop_nil, List.take_succ_cons, List.take_zero, List.take_nil, List.cons_append, List.nil_append, List.append_nil, Nat.zero_add, Nat.add_zero, Int.toNat_natCast, Int.toNat_zero, Int.toNat_one, ne_eq, not_true_eq_false, not_false_eq_true, and_self, and_true, true_and, eq_self, Nat.reduceAdd, Nat.reduceLeDiff, Nat.reduceMul, Nat.reduceSub, Nat.left_eq_add, Nat.add_eq_left, Nat.reduceEqDiff, Nat.one_ne_zero, s127, ↓clC_of (c1 _), g1, ↓t2, ↓clC_of (c2 _), g2, g3, e4, g4]
      simp only [decM, f1, if_false, hn, f2, f3, f4, if_true, decV]
      rfl
  have g4 : ¬ ((s.length : Int) < ((6 + n : Nat) : Int)) := by omega
  generalize hb : (s.take (6 + n)).drop 6 = body
  have hbl : body.length = n := by rw [← hb]; simp; omega
  have t3 : ∀ K, slsC (.str s) (some (.int .i64 6)) (some (.int .i64 ((6 + n : Nat) : Int))) K = K (.str body) := fun K => by
    rw [← hb]; exact slsC_some_some (by decide) (by omega) (by omega)
  match body, hbl with
  | [], hbl => simp at hbl; omega
  | k :: p, hbl =>
    have hk := k.toNat_lt
    have t4 : ∀ K, ixtC (.str (k :: p)) (.int .i64 0) K = K (.int .u8 (k.toNat : Int)) := fun K => ixtC_s (by decide) (by simp)
    by_cases f5 : k = 0
    · have g5 : (k.toNat : Int) = 0 := by rw [f5]; rfl
      refine ⟨?_, ?_⟩
      rotate_left
      · simp (disch := omega) only [↓cmC_int, ↓cmC_str, ↓biC_add, ↓biC_sub, ↓biC_mul, ↓notC_b, ↓negC_i, ↓cviC_i, ↓cssC_s, ↓cnd_t, ↓cnd_f, ↓pickC_t, ↓pickC_f, ↓gdC_tt, ↓gdC_ff, ↓gdC_tf, ↓gdC_ft, ↓gdC_u, ↓elim_some, ↓exC_0, ↓exC_1, ↓exC_2, ↓exC_3, ↓lensC_s, ↓lenlC_s, ↓lenlC_m, ↓mnC_i, ↓mxC_i, ↓getN_0, ↓getN_s, ↓allocC_e, ↓nilC_p, ↓nilC_e, ↓nilC_f, ↓faC_p, ↓ldC_m, ↓ldK_some, ↓stC_m, ↓stK_some, ↓boxC_m, ↓aggC_m, ↓shC_shrN, ↓ixpC_p, ↓addSC_s, ↓iter_succ, ↓if_true, ↓if_false, ↓reduceIte, shC_shrN, ixpC_p, addSC_s, icmp_eq, icmp_ne, icmp_lt, icmp_le, icmp_gt, icmp_ge, decide_true, decide_false, Bool.not_true, Bool.not_false, Bool.true_and, Bool.and_true, Bool.false_and, Bool.and_false, wrap_i64, wrap_u64, wrap_u32, wrap_u8, cs_put, cs_add, Heap.next_put, Heap.next_add, cells_int, cells_str, cells_bool, cells_ptr, cells_sl, cells_ms, cells_nilp, cells_func, cells_agg, mk_t, mk_f, putA, putN, cond_true, cond_false, Nat.beq_refl, Option.map_some, List.length_cons, List.length_nil, List.drop_succ_cons, List.drop_zero, List.drop_nil, List.take_succ_cons, List.take_zero, List.take_nil, List.cons_append, List.nil_append, List.append_nil, Nat.zero_add, Nat.add_zero, Int.toNat_natCast, Int.toNat_zero, Int.toNat_one, ne_eq, not_true_eq_false, not_false_eq_true, and_self, and_true, true_and, eq_self, Nat.reduceAdd, Nat.reduceLeDiff, Nat.reduceMul, Nat.reduceSub, Nat.left_eq_add, Nat.add_eq_left, Nat.reduceEqDiff, Nat.one_ne_zero, s127, ↓clC_of (c1 _), g1, ↓t2, ↓clC_of (c2 _), g2, g3, e4, g4, ↓t3, ↓t4, g5]
        simp only [decM, f1, if_false, hn, f2, f3, f4, hb, List.head?_cons, Option.getD_some, f5, true_or, if_true, decV]
        rfl
    have g5 : ¬ ((k.toNat : Int) = 0) := by
      intro e
      apply f5
      apply UInt8.toNat_inj.1
      show k.toNat = 0
      omega
    have t5 : ∀ K, slsC (.str s) (some (.int .i64 2)) (some (.int .i64 6)) K = K (.str ((s.take 6).drop 2)) := fun K => slsC_some_some (by decide) (by decide) (by omega)
    have c3 : ∀ G, run t1.get (m - 1) 156 [.str ((s.take 6).drop 2)] G = some (.int .i64 (rd 0 ((s.take 6).drop 2) : Nat), G) := fun G => t1_number (by omega) (by simp; omega) (by simp; omega) G
    have c4 : ∀ G, run t1.get (m - 1) 131 [.int .u32 (st : Int), .int .i64 (a : Int), .str (k :: p)] G = some (.int .u32 (fsum st a (k :: p) : Nat), G) := fun G => t1_fsum (by omega) hst (by omega) (by rw [hbl]; omega) G
    have hf := fsum_lt st a (k :: p)
    generalize hsum : rd 0 ((s.take 6).drop 2) = sm at *
    generalize hfs : fsum st a (k :: p) = fs at *
    by_cases f6 : sm = fs
    · have g6 : (sm : Int) = (fs : Int) := by omega
      have t6 : ∀ K, slsC (.str (k :: p)) (some (.int .i64 1)) none K = K (.str p) := fun K => slsC_some_none (by decide) (by simp; omega)
      refine ⟨?_, ?_⟩
      rotate_left
      · simp (disch := omega) only [↓cmC_int, ↓cmC_str, ↓biC_add, ↓biC_sub, ↓biC_mul, ↓notC_b, ↓negC_i, ↓cviC_i, ↓cssC_s, ↓cnd_t, ↓cnd_f, ↓pickC_t, ↓pickC_f, ↓gdC_tt, ↓gdC_ff, ↓gdC_tf, ↓gdC_ft, ↓gdC_u, ↓elim_some, ↓exC_0, ↓exC_1, ↓exC_2, ↓exC_3, ↓lensC_s, ↓lenlC_s, ↓lenlC_m, ↓mnC_i, ↓mxC_i, ↓getN_0, ↓getN_s, ↓allocC_e, ↓nilC_p, ↓nilC_e, ↓nilC_f, ↓faC_p, ↓ldC_m, ↓ldK_some, ↓stC_m, ↓stK_some, ↓boxC_m, ↓aggC_m, ↓shC_shrN, ↓ixpC_p, ↓addSC_s, ↓iter_succ, ↓if_true, ↓if_false, ↓reduceIte, shC_shrN, ixpC_p, addSC_s, icmp_eq, icmp_ne, icmp_lt, icmp_le, icmp_gt, icmp_ge, decide_true, decide_false, Bool.not_true, Bool.not_false, Bool.true_and, Bool.and_true, Bool.false_and, Bool.and_false, wrap_i64, wrap_u64, wrap_u32, wrap_u8, cs_put, cs_add, Heap.next_put, Heap.next_add, cells_int, cells_str, cells_bool, cells_ptr, cells_sl, cells_ms, cells_nilp, cells_func, cells_agg, mk_t, mk_f, putA, putN, cond_true, cond_false, Nat.beq_refl, Option.map_some, List.length_cons, List.length_nil, List.drop_succ_cons, List.drop_zero, List.drop_nil, List.take_succ_cons, List.take_zero, List.take_nil, List.cons_append, List.nil_append, List.append_nil, Nat.zero_add, Nat.add_zero, Int.toNat_natCast, Int.toNat_zero, Int.toNat_one, ne_eq, not_true_eq_false, not_false_eq_true, and_self, and_true, true_and, eq_self, Nat.reduceAdd, Nat.reduceLeDiff, Nat.reduceMul, Nat.reduceSub, Nat.left_eq_add, Nat.add_eq_left, Nat.reduceEqDiff, Nat.one_ne_zero, s127, ↓clC_of (c1 _), g1, ↓t2, ↓clC_of (c2 _), g2, g3, e4, g4, ↓t3, ↓t4, g5, ↓t5, ↓clC_of (c3 _), ↓clC_of (c4 _), g6, ↓t6]
        simp only [decM, f1, if_false, hn, f2, f3, f4, hb, List.head?_cons, Option.getD_some, f5, hsum, hfs, f6, ne_eq, not_true_eq_false, or_false, decV, List.drop_succ_cons, List.drop_zero]
        rfl
    · have g6 : ¬ ((sm : Int) = (fs : Int)) := by omega
      refine ⟨?_, ?_⟩
      rotate_left
      · simp (disch := omega) only [↓cmC_int, ↓cmC_str, ↓biC_add, ↓biC_sub, ↓biC_mul, ↓notC_b, ↓negC_i, ↓cviC_i, ↓cssC_s, ↓cnd_t, ↓cnd_f, ↓pickC_t, ↓pickC_f, ↓gdC_tt, ↓gdC_ff, ↓gdC_tf, ↓gdC_ft, ↓gdC_u, ↓elim_some, ↓exC_0, ↓exC_1, ↓exC_2, ↓exC_3, ↓lensC_s, ↓lenlC_s, ↓lenlC_m, ↓mnC_i, ↓mxC_i, ↓getN_0, ↓getN_s, ↓allocC_e, ↓nilC_p, ↓nilC_e, ↓nilC_f, ↓faC_p, ↓ldC_m, ↓ldK_some, ↓stC_m, ↓stK_some, ↓boxC_m, ↓aggC_m, ↓shC_shrN, ↓ixpC_p, ↓addSC_s, ↓iter_succ, ↓if_true, ↓if_false, ↓reduceIte, shC_shrN, ixpC_p, addSC_s, icmp_eq, icmp_ne, icmp_lt, icmp_le, icmp_gt, icmp_ge, decide_true, decide_false, Bool.not_true, Bool.not_false, Bool.true_and, Bool.and_true, Bool.false_and, Bool.and_false, wrap_i64, wrap_u64, wrap_u32, wrap_u8, cs_put, cs_add, Heap.next_put, Heap.next_add, cells_int, cells_str, cells_bool, cells_ptr, cells_sl, cells_ms, cells_nilp, cells_func, cells_agg, mk_t, mk_f, putA, putN, cond_true, cond_false, Nat.beq_refl, Option.map_some, List.length_cons, List.length_nil, List.drop_succ_cons, List.drop_zero, List.drop_nil, List.take_succ_cons, List.take_zero, List.take_nil, List.cons_append, List.nil_append, List.append_nil, Nat.zero_add, Nat.add_zero, Int.toNat_natCast, Int.toNat_zero, Int.toNat_one, ne_eq, not_true_eq_false, not_false_eq_true, and_self, and_true, true_and, eq_self, Nat.reduceAdd, Nat.reduceLeDiff, Nat.reduceMul, Nat.reduceSub, Nat.left_eq_add, Nat.add_eq_left, Nat.reduceEqDiff, Nat.one_ne_zero, s127, ↓clC_of (c1 _), g1, ↓t2, ↓clC_of (c2 _), g2, g3, e4, g4, ↓t3, ↓t4, g5, ↓t5, ↓clC_of (c3 _), ↓clC_of (c4 _), g6]
        simp only [decM, f1, if_false, hn, f2, f3, f4, hb, List.head?_cons, Option.getD_some, f5, hsum, hfs, f6, ne_eq, not_false_eq_true, or_true, if_true, decV]
        rfl
 end
end Go.AM.T
set_option maxRecDepth 100000
set_option linter.unusedVariables false
set_option linter.unusedSimpArgs false
namespace Go.AM.T
open Go Go.AM
def zeros (n : Nat) : List UInt8 := List.replicate n 0
def pad (s : List UInt8) : List UInt8 := s.take 52 ++ zeros (52 - min s.length 52)
def pcs : Nat → List UInt8 → List (List UInt8)
  | 0, _ => []
  | n + 1, s => pad s :: pcs n (s.drop 52)
def pieces (s : List UInt8) : List (List UInt8) := pcs (many s.length) s
theorem pad_len (s : List UInt8) : (pad s).length = 52 := by simp [pad, zeros]; omega
theorem pcs_len : ∀ (n : Nat) (s : List UInt8), (pcs n s).length = n
  | 0, _ => rfl
  | n + 1, s => by simp [pcs, pcs_len n]
theorem pcs_mem : ∀ (n : Nat) (s x : List UInt8), x ∈ pcs n s → x.length = 52
  | 0, _, x, h => by cases h
  | n + 1, s, x, h => by
    rcases List.mem_cons.1 h with rfl | h
    · exact pad_len s
    · exact pcs_mem n _ x h
section
variable {m : Nat} {h : Heap}
theorem loop_pieces {q : Nat} (hq : 2 ≤ q) (n : Nat) {tot : Nat} (htot : tot < 1000) : ∀ (k i : Nat), i + k = tot → ∀ (m : Nat), k < m → ∀ (s : List UInt8) (w : Own) (acc : List (List UInt8)) (h : Heap), Fit h → Gr h w acc.length → acc.length = i → s.length < 100000 →
    ∃ w' h', iter m (fun again0 xs h => s84_l0 (run t1.get q) n again0 (.int .i64 tot) (getN xs 0) (getN xs 1) (getN xs 2) h) [.str s, .sl w 1 (acc.map Val.str), .int .i64 i] h = some (.sl w' 1 ((acc ++ pcs k s).map Val.str), h') ∧ (k = 0 → w' = w) ∧ (0 < k → ∃ t, w' = .tok t)
  | 0, i, hi, m, hm, s, w, acc, h, hf, hg, ha, hs => by
    obtain ⟨m, rfl⟩ : ∃ q, m = q + 1 := ⟨m - 1, by omega⟩
    have : i = tot := by omega
    subst this
    refine ⟨w, h, ?_, fun _ => rfl, fun h => absurd h (by decide)⟩
    have g1 : ¬ ((i : Int) < (i : Int)) := by omega
    simp (disch := omega) only [↓cmC_int, ↓cmC_str, ↓biC_add, ↓biC_sub, ↓biC_mul, ↓notC_b, ↓negC_i, ↓cviC_i, ↓cssC_s, ↓cnd_t, ↓cnd_f, ↓pickC_t, ↓pickC_f, ↓gdC_tt, ↓gdC_ff, ↓gdC_tf, ↓gdC_ft, ↓gdC_u, ↓elim_some, ↓exC_0, ↓exC_1, ↓exC_2, ↓exC_3, ↓lensC_s, ↓lenlC_s, ↓lenlC_m, ↓mnC_i, ↓mxC_i, ↓getN_0, ↓getN_s, ↓allocC_e, ↓nilC_p, ↓nilC_e, ↓nilC_f, ↓faC_p, ↓ldC_m, ↓ldK_some, ↓stC_m, ↓stK_some, ↓boxC_m, ↓aggC_m, ↓shC_shrN, ↓ixpC_p, ↓addSC_s, ↓iter_succ, ↓if_true, ↓if_false, ↓reduceIte, shC_shrN, ixpC_p, addSC_s, icmp_eq, icmp_ne, icmp_lt, icmp_le, icmp_gt, icmp_ge, decide_true, decide_false, Bool.not_true, Bool.not_false, Bool.true_and, Bool.and_true, Bool.false_and, Bool.and_false, wrap_i64, wrap_u64, wrap_u32, wrap_u8, cs_put, cs_add, Heap.next_put, Heap.next_add, cells_int, cells_str, cells_bool, cells_ptr, cells_sl, cells_ms, cells_nilp, cells_func, cells_agg, mk_t, mk_f, putA, putN, cond_true, cond_false, Nat.beq_refl, Option.map_some, List.length_cons, List.length_nil, List.drop_succ_cons, List.drop_zero, List.drop_nil, List.take_succ_cons, List.take_zero, List.take_nil, List.cons_append, List.nil_append, List.append_nil, Nat.zero_add, Nat.add_zero, Int.toNat_natCast, Int.toNat_zero, Int.toNat_one, ne_eq, not_true_eq_false, not_false_eq_true, and_self, and_true, true_and, eq_self, Nat.reduceAdd, Nat.reduceLeDiff, Nat.reduceMul, Nat.reduceSub, Nat.left_eq_add, Nat.add_eq_left, Nat.reduceEqDiff, Nat.one_ne_zero, s84_l0, g1, pcs, List.append_nil]
  | k + 1, i, hi, m, hm, s, w, acc, h, hf, hg, ha, hs => by
    obtain ⟨m, rfl⟩ : ∃ q, m = q + 1 := ⟨m - 1, by omega⟩
    obtain ⟨w1, h1, ea, hf1, hg1, -, ht1⟩ := app_one' (z := 1) (g := false) (u := .ex) (x := .str (pad s)) hf (l := acc.map Val.str) (by simpa using hg) (by simp; omega)
    obtain ⟨w', h', ih, k1, k2⟩ := loop_pieces hq n htot k (i + 1) (by omega) m (by omega) (s.drop 52) w1 (acc ++ [pad s]) h1 hf1 (by simpa using hg1) (by simp [ha]) (by simp; omega)
    refine ⟨w', h', ?_, fun h => absurd h (by omega), fun _ => ?_⟩
    · rw [iter_succ]
      generalize iter m (fun again0 xs h => s84_l0 (run t1.get q) n again0 (.int .i64 tot) (getN xs 0) (getN xs 1) (getN xs 2) h) = G at ih ⊢
      have g1 : (i : Int) < (tot : Int) := by omega
      have e1 : min (s.length : Int) 52 = ((min s.length 52 : Nat) : Int) := by omega
      have e2 : ∀ K, slsC (.str s) none (some (.int .i64 ((min s.length 52 : Nat) : Int))) K = K (.str (s.take 52)) := fun K => by
        rw [slsC_none_some (by omega) (by omega), Int.toNat_natCast]
        congr 2
        rw [Nat.min_comm, ← List.take_take, List.take_length]
      have e3 : (52 : Int) - ((min s.length 52 : Nat) : Int) = ((52 - min s.length 52 : Nat) : Int) := by omega
      have e4 : ∀ G, run t1.get q 88 [.str [0], .int .i64 ((52 - min s.length 52 : Nat) : Int)] G = some (.str (zeros (52 - min s.length 52)), G) := fun G => by
        rw [t1_r88 (by omega)]; exact p_repeat0 (by omega) G
      have e5 : ∀ K, addSC (.str (s.take 52)) (.str (zeros (52 - min s.length 52))) K = K (.str (pad s)) := fun K => by
        rw [addSC_s _ _ (by simp [zeros]; omega)]; rfl
      have e6 : ∀ K, bslC 1 [.str (pad s)] K = K (.sl .ex 1 [.str (pad s)]) := fun K => rfl
      have e7 : ∀ K, slsC (.str s) (some (.int .i64 ((min s.length 52 : Nat) : Int))) none K = K (.str (s.drop 52)) := fun K => by
        rw [slsC_some_none (by omega) (by omega), Int.toNat_natCast]
        congr 2
        by_cases hl : s.length ≤ 52
        · rw [Nat.min_eq_left hl, List.drop_length, List.drop_of_length_le hl]
        · rw [Nat.min_eq_right (by omega)]
      have e8 : (i : Int) + 1 = ((i + 1 : Nat) : Int) := rfl
      have ih' : G [.str (s.drop 52), .sl w1 1 (acc.map Val.str ++ [.str (pad s)]), .int .i64 ((i + 1 : Nat) : Int)] h1 = some (.sl w' 1 ((acc ++ pcs (k + 1) s).map Val.str), h') := by
        simpa [pcs] using ih
      simp (disch := omega) only [↓cmC_int, ↓cmC_str, ↓biC_add, ↓biC_sub, ↓biC_mul, ↓notC_b, ↓negC_i, ↓cviC_i, ↓cssC_s, ↓cnd_t, ↓cnd_f, ↓pickC_t, ↓pickC_f, ↓gdC_tt, ↓gdC_ff, ↓gdC_tf, ↓gdC_ft, ↓gdC_u, ↓elim_some, ↓exC_0, ↓exC_1, ↓exC_2, ↓exC_3, ↓lensC_s, ↓lenlC_s, ↓lenlC_m, ↓mnC_i, ↓mxC_i, ↓getN_0, ↓getN_s, ↓allocC_e, ↓nilC_p, ↓nilC_e, ↓nilC_f, ↓faC_p, ↓ldC_m, ↓ldK_some, ↓stC_m, ↓stK_some, ↓boxC_m, ↓aggC_m, ↓shC_shrN, ↓ixpC_p, ↓addSC_s, ↓iter_succ, ↓if_true, ↓if_false, ↓reduceIte, shC_shrN, ixpC_p, addSC_s, icmp_eq, icmp_ne, icmp_lt, icmp_le, icmp_gt, icmp_ge, decide_true, decide_false, Bool.not_true, Bool.not_false, Bool.true_and, Bool.and_true, Bool.false_and, Bool.and_false, wrap_i64, wrap_u64, wrap_u32, wrap_u8, cs_put, cs_add, Heap.next_put, Heap.next_add, cells_int, cells_str, cells_bool, cells_ptr, cells_sl, cells_ms, cells_nilp, cells_func, cells_agg, mk_t, mk_f, putA, putN, cond_true, cond_false, Nat.beq_refl, Option.map_some, List.length_cons, List.length_nil, List.drop_succ_cons, List.drop_zero, List.drop_nil, List.take_succ_cons, List.take_zero, List.take_nil, List.cons_append, List.nil_append, List.append_nil, Nat.zero_add, Nat.add_zero, Int.toNat_natCast, Int.toNat_zero, Int.toNat_one, ne_eq, not_true_eq_false, not_false_eq_true, and_self, and_true, true_and, eq_self, Nat.reduceAdd, Nat.reduceLeDiff, Nat.reduceMul, Nat.reduceSub, Nat.left_eq_add, Nat.add_eq_left, Nat.reduceEqDiff, Nat.one_ne_zero, s84_l0, g1, e1, ↓e2, e3, ↓clC_of (e4 _), ↓e5, ↓e6, ↓ea, ↓e7, e8, ih']
    · cases k with
      | zero => rw [k1 rfl]; exact ht1
      | succ k => exact k2 (by omega)
theorem t1_pieces {s : List UInt8} (hm : many s.length + 10 ≤ m) (hs : s.length < 20000) {h : Heap} (hf : Fit h) :
    ∃ w h', run t1.get m 84 [.str s] h = some (.sl w 1 ((pieces s).map Val.str), h') ∧ (s = [] → w = .nl) ∧ (s ≠ [] → ∃ t, w = .tok t) := by
  have hmany : many s.length < 1000 := by unfold many; omega
  obtain ⟨w, h', e, k1, k2⟩ := loop_pieces (q := m - 1) (by omega) (m - 1) hmany (many s.length) 0 (by omega) (m - 1) (by omega) s .nl [] h hf rfl rfl (by omega)
  refine ⟨w, h', ?_, fun e => k1 (by subst e; rfl), fun e => k2 (by
    have : 0 < s.length := List.length_pos_iff.2 e
    unfold many; omega)⟩
  rw [t1_r84 (by omega)]
  have c1 : ∀ G, run t1.get (m - 1) 104 [.int .i64 (s.length : Int)] G = some (.int .i64 (many s.length : Nat), G) := fun G => t1_many (by omega) (by omega) G
  simp only [s84, lensC_s, clC_of (c1 _)]
  exact e
def mark (st ct : Nat) : List UInt8 := be 4 st ++ be 2 ct
def sealB (st ct : Nat) (d : List UInt8) : List UInt8 := mark st ct ++ d ++ mark st ct
theorem mark_len (st ct : Nat) : (mark st ct).length = 6 := by simp [mark, be_len]
theorem sealB_len (st ct : Nat) {d : List UInt8} (hd : d.length = 52) : (sealB st ct d).length = 64 := by simp [sealB, mark_len, hd]
theorem t1_mark {st ct : Nat} (hm : 4 ≤ m) (h1 : st < 4294967296) (h2 : ct < 65536) (h : Heap) : run t1.get m 158 [.int .u32 st, .int .i64 ct] h = some (.str (mark st ct), h) := by
  rw [t1_r158 (by omega)]
  have e1 : ∀ K, clC (run t1.get (m - 1)) 134 [.int .u64 (st : Int), .int .i64 4] h K = K (.tup [.str (be 4 st), .int .i64 0]) h := fun K => clC_of (by rw [t1_r134 (by omega)]; exact p_fixed (n := 4) (by omega) (by omega) (by omega))
  have e2 : ∀ K, clC (run t1.get (m - 1)) 134 [.int .u64 (ct : Int), .int .i64 2] h K = K (.tup [.str (be 2 ct), .int .i64 0]) h := fun K => clC_of (by rw [t1_r134 (by omega)]; exact p_fixed (n := 2) (by omega) (by omega) (by omega))
  have e3 : ∀ K, addSC (.str (be 4 st)) (.str (be 2 ct)) K = K (.str (mark st ct)) := fun K => addSC_s _ _ (by simp [be_len])
  simp (disch := omega) only [↓cmC_int, ↓cmC_str, ↓biC_add, ↓biC_sub, ↓biC_mul, ↓notC_b, ↓negC_i, ↓cviC_i, ↓cssC_s, ↓cnd_t, ↓cnd_f, ↓pickC_t, ↓pickC_f, ↓gdC_tt, ↓gdC_ff, ↓gdC_tf, ↓gdC_ft, ↓gdC_u, ↓elim_some, ↓exC_0, ↓exC_1, ↓exC_2, ↓exC_3, ↓lensC_s, ↓lenlC_s, ↓lenlC_m, ↓mnC_i, ↓mxC_i, ↓getN_0, ↓getN_s, ↓allocC_e, ↓nilC_p, ↓nilC_e, ↓nilC_f, ↓faC_p, ↓ldC_m, ↓ldK_some, ↓stC_m, ↓stK_some, ↓boxC_m, ↓aggC_m, ↓shC_shrN, ↓ixpC_p, ↓addSC_s, ↓iter_succ, ↓if_true, ↓if_false, ↓reduceIte, shC_shrN, ixpC_p, addSC_s, icmp_eq, icmp_ne, icmp_lt, icmp_le, icmp_gt, icmp_ge, decide_true, decide_false, Bool.not_true, Bool.not_false, Bool.true_and, Bool.and_true, Bool.false_and, Bool.and_false, wrap_i64, wrap_u64, wrap_u32, wrap_u8, cs_put, cs_add, Heap.next_put, Heap.next_add, cells_int, cells_str, cells_bool, cells_ptr, cells_sl, cells_ms, cells_nilp, cells_func, cells_agg, mk_t, mk_f, putA, putN, cond_true, cond_false, Nat.beq_refl, Option.map_some, List.length_cons, List.length_nil, List.drop_succ_cons, List.drop_zero, List.drop_nil, List.take_succ_cons, List.take_zero, List.take_nil, List.cons_append, List.nil_append, List.append_nil, Nat.zero_add, Nat.add_zero, Int.toNat_natCast, Int.toNat_zero, Int.toNat_one, ne_eq, not_true_eq_false, not_false_eq_true, and_self, and_true, true_and, eq_self, Nat.reduceAdd, Nat.reduceLeDiff, Nat.reduceMul, Nat.reduceSub, Nat.left_eq_add, Nat.add_eq_left, Nat.reduceEqDiff, Nat.one_ne_zero, s158, ↓e1, ↓e2, ↓e3]
theorem t1_rseal {st ct : Nat} {d : List UInt8} (hm : 4 ≤ m) (h1 : st < 4294967296) (h2 : ct < 65536) (h3 : d.length < 100000) (h : Heap) : run t1.get m 69 [.int .u32 st, .int .i64 ct, .str d] h = some (.str (sealB st ct d), h) := by
  rw [t1_r69 (by omega)]
  have e1 : ∀ K, clC (run t1.get (m - 1)) 116 [.int .u64 (st : Int), .int .i64 4] h K = K (.str (be 4 st)) h := fun K => clC_of (by rw [t1_r116 (by omega)]; exact p_rfixed (n := 4) (by omega) (by omega))
  have e2 : ∀ K, clC (run t1.get (m - 1)) 116 [.int .u64 (ct : Int), .int .i64 2] h K = K (.str (be 2 ct)) h := fun K => clC_of (by rw [t1_r116 (by omega)]; exact p_rfixed (n := 2) (by omega) (by omega))
  have e3 : ∀ K, addSC (.str (be 4 st)) (.str (be 2 ct)) K = K (.str (mark st ct)) := fun K => addSC_s _ _ (by simp [be_len])
  have e4 : ∀ K, addSC (.str (mark st ct)) (.str d) K = K (.str (mark st ct ++ d)) := fun K => addSC_s _ _ (by rw [mark_len]; omega)
  have e5 : ∀ K, addSC (.str (mark st ct ++ d)) (.str (mark st ct)) K = K (.str (sealB st ct d)) := fun K => addSC_s _ _ (by rw [List.length_append, mark_len]; omega)
  simp (disch := omega) only [↓cmC_int, ↓cmC_str, ↓biC_add, ↓biC_sub, ↓biC_mul, ↓notC_b, ↓negC_i, ↓cviC_i, ↓cssC_s, ↓cnd_t, ↓cnd_f, ↓pickC_t, ↓pickC_f, ↓gdC_tt, ↓gdC_ff, ↓gdC_tf, ↓gdC_ft, ↓gdC_u, ↓elim_some, ↓exC_0, ↓exC_1, ↓exC_2, ↓exC_3, ↓lensC_s, ↓lenlC_s, ↓lenlC_m, ↓mnC_i, ↓mxC_i, ↓getN_0, ↓getN_s, ↓allocC_e, ↓nilC_p, ↓nilC_e, ↓nilC_f, ↓faC_p, ↓ldC_m, ↓ldK_some, ↓stC_m, ↓stK_some, ↓boxC_m, ↓aggC_m, ↓shC_shrN, ↓ixpC_p, ↓addSC_s, ↓iter_succ, ↓if_true, ↓if_false, ↓reduceIte, shC_shrN, ixpC_p, addSC_s, icmp_eq, icmp_ne, icmp_lt, icmp_le, icmp_gt, icmp_ge, decide_true, decide_false, Bool.not_true, Bool.not_false, Bool.true_and, Bool.and_true, Bool.false_and, Bool.and_false, wrap_i64, wrap_u64, wrap_u32, wrap_u8, cs_put, cs_add, Heap.next_put, Heap.next_add, cells_int, cells_str, cells_bool, cells_ptr, cells_sl, cells_ms, cells_nilp, cells_func, cells_agg, mk_t, mk_f, putA, putN, cond_true, cond_false, Nat.beq_refl, Option.map_some, List.length_cons, List.length_nil, List.drop_succ_cons, List.drop_zero, List.drop_nil, List.take_succ_cons, List.take_zero, List.take_nil, List.cons_append, List.nil_append, List.append_nil, Nat.zero_add, Nat.add_zero, Int.toNat_natCast, Int.toNat_zero, Int.toNat_one, ne_eq, not_true_eq_false, not_false_eq_true, and_self, and_true, true_and, eq_self, Nat.reduceAdd, Nat.reduceLeDiff, Nat.reduceMul, Nat.reduceSub, Nat.left_eq_add, Nat.add_eq_left, Nat.reduceEqDiff, Nat.one_ne_zero, s69, ↓e1, ↓e2, ↓e3, ↓e4, ↓e5]
theorem t1_seal {st ct : Nat} {d : List UInt8} (hm : 6 ≤ m) (h1 : st < 4294967296) (h2 : 1 ≤ ct) (h3 : ct ≤ 65535) (h4 : d.length = 52) (h : Heap) :
    ∃ h', run t1.get m 132 [.int .u32 st, .int .i64 ct, .str d] h = some (.tup [.str (sealB st ct d), .int .i64 0], h') := by
  rw [t1_r132 (by omega)]
  have g1 : ¬ ((ct : Int) < 1) := by omega
  have g2 : ¬ ((65535 : Int) < (ct : Int)) := by omega
  have g3 : ((d.length : Nat) : Int) = 52 := by omega
  have c1 : ∀ G, run t1.get (m - 1) 158 [.int .u32 (st : Int), .int .i64 (ct : Int)] G = some (.str (mark st ct), G) := fun G => t1_mark (by omega) h1 (by omega) G
  generalize hM : mark st ct = M at *
  have hMl : M.length = 6 := by rw [← hM]; exact mark_len _ _
  let Z : List Val := reps 64 (.int .u8 0)
  have hZ : Z.length = 64 := rfl
  let C1 : List Val := ofBytes M ++ Z.drop 6
  let C2 : List Val := ofBytes M ++ ofBytes d ++ Z.drop 58
  let C3 : List Val := ofBytes (M ++ d ++ M)
  have a1 : ∀ K, slaC 64 1 (.ptr h.next 0) none none K = K (.ms h.next 0 64 64 1) := fun K => slaC_p (e := 64) (a := 0) rfl rfl (by decide)
  have a2 : ∀ K, slaC 64 1 (.ptr h.next 0) (some (.int .i64 6)) none K = K (.ms h.next 6 58 58 1) := fun K => slaC_p (e := 64) (a := 6) rfl rfl (by decide)
  have a3 : ∀ K, slaC 64 1 (.ptr h.next 0) (some (.int .i64 58)) none K = K (.ms h.next 58 6 6 1) := fun K => slaC_p (e := 64) (a := 58) rfl rfl (by decide)
  let H0 := h.add (.cells Z)
  have p1 : ∀ K, cpyC 1 (.ms h.next 0 64 64 1) (.str M) H0 K = K (.int .i64 6) (H0.put h.next (.cells C1)) := fun K => by
    rw [cpyC_str (blk_add_same _) (by rw [hMl]; decide), hMl, show M.take 64 = M from List.take_of_length_le (by omega)]; rfl
  let H1 := H0.put h.next (.cells C1)
  have p2 : ∀ K, cpyC 1 (.ms h.next 6 58 58 1) (.str d) H1 K = K (.int .i64 52) (H1.put h.next (.cells C2)) := fun K => by
    have hC1 : C1.length = 64 := by simp [C1, hMl, hZ]
    rw [cpyC_str (blk_put_same _ _) (by rw [h4, hC1]; decide), h4, show d.take 58 = d from List.take_of_length_le (by omega)]
    have : C1.take 6 ++ ofBytes d ++ C1.drop (6 + min 52 58) = C2 := by
      simp only [C1, C2]
      rw [List.take_append_of_le_length (by simp [hMl]), List.take_of_length_le (by simp [hMl]), List.drop_append, List.drop_of_length_le (by simp [hMl])]
      simp [hMl]
    rw [this]; rfl
  let H2 := H1.put h.next (.cells C2)
  have p3 : ∀ K, cpyC 1 (.ms h.next 58 6 6 1) (.str M) H2 K = K (.int .i64 6) (H2.put h.next (.cells C3)) := fun K => by
    have hC2 : C2.length = 64 := by simp [C2, hMl, h4, hZ]
    rw [cpyC_str (blk_put_same _ _) (by rw [hMl, hC2]; decide), hMl, show M.take 6 = M from List.take_of_length_le (by omega)]
    have : C2.take 58 ++ ofBytes M ++ C2.drop (58 + min 6 6) = C3 := by
      simp only [C2, C3]
      rw [List.take_append_of_le_length (by simp [hMl, h4]), List.take_of_length_le (by simp [hMl, h4]), List.drop_of_length_le (by simp [hMl, h4, hZ])]
      simp [ofBytes_append]
    rw [this]; rfl
  let H3 := H2.put h.next (.cells C3)
  have p4 : ∀ K, cvsC (.ms h.next 0 64 64 1) H3 K = K (.str (sealB st ct d)) := fun K => by
    have hl : (M ++ d ++ M).length = 64 := by simp [hMl, h4]
    refine cvsC_ms (blk_put_same _ _) (by simp only [C3, ofBytes_len, hl]; decide) ?_
    rw [List.drop_zero, List.take_of_length_le (by simp only [C3, ofBytes_len, hl]; decide)]
    simp only [C3, bytesOf_of, sealB, hM]
  refine ⟨H3, ?_⟩
  simp (disch := omega) only [↓cmC_int, ↓cmC_str, ↓biC_add, ↓biC_sub, ↓biC_mul, ↓notC_b, ↓negC_i, ↓cviC_i, ↓cssC_s, ↓cnd_t, ↓cnd_f, ↓pickC_t, ↓pickC_f, ↓gdC_tt, ↓gdC_ff, ↓gdC_tf, ↓gdC_ft, ↓gdC_u, ↓elim_some, ↓exC_0, ↓exC_1, ↓exC_2, ↓exC_3, ↓lensC_s, ↓lenlC_s, ↓lenlC_m, ↓mnC_i, ↓mxC_i, ↓getN_0, ↓getN_s, ↓allocC_e, ↓nilC_p, ↓nilC_e, ↓nilC_f, ↓faC_p, ↓ldC_m, ↓ldK_some, ↓stC_m, ↓stK_some, ↓boxC_m, ↓aggC_m, ↓shC_shrN, ↓ixpC_p, ↓addSC_s, ↓iter_succ, ↓if_true, ↓if_false, ↓reduceIte, shC_shrN, ixpC_p, addSC_s, icmp_eq, icmp_ne, icmp_lt, icmp_le, icmp_gt, icmp_ge, decide_true, decide_false, Bool.not_true, Bool.not_false, Bool.true_and, Bool.and_true, Bool.false_and, Bool.and_false, wrap_i64, wrap_u64, wrap_u32, wrap_u8, cs_put, cs_add, Heap.next_put, Heap.next_add, cells_int, cells_str, cells_bool, cells_ptr, cells_sl, cells_ms, cells_nilp, cells_func, cells_agg, mk_t, mk_f, putA, putN, cond_true, cond_false, Nat.beq_refl, Option.map_some, List.length_cons, List.length_nil, List.drop_succ_cons, List.drop_zero, List.drop_nil, List.take_succ_cons, List.take_zero, List.take_nil, List.cons_append, List.nil_append, List.append_nil, Nat.zero_add, Nat.add_zero, Int.toNat_natCast, Int.toNat_zero, Int.toNat_one, ne_eq, not_true_eq_false, not_false_eq_true, and_self, and_true, true_and, eq_self, Nat.reduceAdd, Nat.reduceLeDiff, Nat.reduceMul, Nat.reduceSub, Nat.left_eq_add, Nat.add_eq_left, Nat.reduceEqDiff, Nat.one_ne_zero, s132, g1, g2, g3, ↓clC_of (c1 _), ↓a1, ↓a2, ↓a3]
  refine (p1 _).trans ((p2 _).trans ((p3 _).trans ?_))
  exact p4 _
 end
end Go.AM.T
set_option maxRecDepth 100000
set_option linter.unusedVariables false
set_option linter.unusedSimpArgs false
namespace Go.AM.T
open Go Go.AM
theorem eqB_d : ∀ (a b : List UInt8), eqB a b = decide (a = b)
  | [], [] => rfl
  | [], _ :: _ => rfl
  | _ :: _, [] => rfl
  | x :: a, y :: b => by
    have h1 : (x.toNat.beq y.toNat) = decide (x = y) := by
      rw [Bool.eq_iff_iff, Nat.beq_eq, decide_eq_true_eq, UInt8.toNat_inj]
    rw [eqB, eqB_d a b, h1]
    by_cases e : x = y
    · by_cases e2 : a = b <;> simp [e, e2]
    · simp [e]
theorem sne (a b : List UInt8) : scmp .ne a b = !decide (a = b) := by rw [scmp, eqB_d]
theorem seq_ (a b : List UInt8) : scmp .eq a b = decide (a = b) := by rw [scmp, eqB_d]
def openM (s : List UInt8) : Option (Nat × Nat × List UInt8) :=
  if s.length ≠ 64 ∨ s.take 6 ≠ s.drop 58 then none else
  if rd 0 ((s.take 6).drop 4) = 0 then none else some (rd 0 (s.take 4), rd 0 ((s.take 6).drop 4), (s.take 58).drop 6)
def openV : Option (Nat × Nat × List UInt8) → Val
  | none => .tup [.int .u32 0, .int .i64 0, .str [], .int .i64 4]
  | some (st, ct, d) => .tup [.int .u32 st, .int .i64 ct, .str d, .int .i64 0]
def openR : Option (Nat × Nat × List UInt8) → Val
  | none => .agg [.int .u32 0, .int .i64 0, .str [], .bool false]
  | some (st, ct, d) => .agg [.int .u32 st, .int .i64 ct, .str d, .bool true]
theorem rd_lt' {s : List UInt8} {n : Nat} (h : s.length = n) : rd 0 s < 256 ^ n := by
  have := rd_lt s 0 0 (by decide)
  rwa [Nat.zero_add, h] at this
theorem mark_rd {s : List UInt8} (h : 6 ≤ s.length) : mark (rd 0 (s.take 4)) (rd 0 ((s.take 6).drop 4)) = s.take 6 := by
  have h1 : (s.take 4).length = 4 := by simp; omega
  have h2 : ((s.take 6).drop 4).length = 2 := by simp; omega
  rw [mark, be_rd 4 _ h1, be_rd 2 _ h2]
  have : s.take 4 = (s.take 6).take 4 := by rw [List.take_take]; rfl
  rw [this, List.take_append_drop]
theorem sealB_eq {s : List UInt8} (h : s.length = 64) : sealB (rd 0 (s.take 4)) (rd 0 ((s.take 6).drop 4)) ((s.take 58).drop 6) = s ↔ s.take 6 = s.drop 58 := by
  rw [sealB, mark_rd (by omega)]
  have e : s.take 6 ++ (s.take 58).drop 6 ++ s.drop 58 = s := by
    have : s.take 6 = (s.take 58).take 6 := by rw [List.take_take]; rfl
    rw [this, List.take_append_drop, List.take_append_drop]
  constructor
  · intro h1
    rw [← h1] at e
    have l58 : (s.take 6 ++ (s.take 58).drop 6).length = 58 := by simp; omega
    have h2 : (s.take 6 ++ (s.take 58).drop 6 ++ s.take 6).drop 58 = s.take 6 := List.drop_left' l58
    rw [h1] at h2
    exact h2.symm
  · intro h1
    rw [h1] at e ⊢
    exact e
section
variable {m : Nat} {h : Heap}
theorem t1_open {s : List UInt8} (hm : 4 ≤ m) (h : Heap) : run t1.get m 123 [.str s] h = some (openV (openM s), h) := by
  rw [t1_r123 (by omega)]
  by_cases f1 : s.length = 64
  · have g1 : (s.length : Int) = 64 := by omega
    have s1 : ∀ K, slsC (.str s) none (some (.int .i64 6)) K = K (.str (s.take 6)) := fun K => slsC_none_some (by decide) (by omega)
    have s2 : ∀ K, slsC (.str s) (some (.int .i64 58)) none K = K (.str (s.drop 58)) := fun K => slsC_some_none (by decide) (by omega)
    have s3 : ∀ K, slsC (.str s) none (some (.int .i64 4)) K = K (.str (s.take 4)) := fun K => slsC_none_some (by decide) (by omega)
    have s4 : ∀ K, slsC (.str s) (some (.int .i64 4)) (some (.int .i64 6)) K = K (.str ((s.take 6).drop 4)) := fun K => slsC_some_some (by decide) (by decide) (by omega)
    have s5 : ∀ K, slsC (.str s) (some (.int .i64 6)) (some (.int .i64 58)) K = K (.str ((s.take 58).drop 6)) := fun K => slsC_some_some (by decide) (by decide) (by omega)
    have l4 : (s.take 4).length = 4 := by simp; omega
    have l2 : ((s.take 6).drop 4).length = 2 := by simp; omega
    have c1 : ∀ G, run t1.get (m - 1) 155 [.str (s.take 4)] G = some (.tup [.int .u64 (rd 0 (s.take 4) : Nat), .int .i64 0], G) := fun G => by rw [t1_r155 (by omega)]; exact p_read (by omega) (by omega)
    have c2 : ∀ G, run t1.get (m - 1) 155 [.str ((s.take 6).drop 4)] G = some (.tup [.int .u64 (rd 0 ((s.take 6).drop 4) : Nat), .int .i64 0], G) := fun G => by rw [t1_r155 (by omega)]; exact p_read (by omega) (by omega)
    have b1 := rd_lt' l4
    have b2 := rd_lt' l2
    by_cases f2 : s.take 6 = s.drop 58
    · by_cases f3 : rd 0 ((s.take 6).drop 4) = 0
      · have g3 : ((rd 0 ((s.take 6).drop 4) : Nat) : Int) = 0 := by omega
        have e1 : openM s = none := by
          unfold openM
          rw [if_neg (by simp [f1, f2]), if_pos f3]
        have f2' : decide (s.take 6 = s.drop 58) = true := decide_eq_true f2
        rw [e1]
        simp (disch := omega) only [↓cmC_int, ↓cmC_str, ↓biC_add, ↓biC_sub, ↓biC_mul, ↓notC_b, ↓negC_i, ↓cviC_i, ↓cssC_s, ↓cnd_t, ↓cnd_f, ↓pickC_t, ↓pickC_f, ↓gdC_tt, ↓gdC_ff, ↓gdC_tf, ↓gdC_ft, ↓gdC_u, ↓elim_some, ↓exC_0, ↓exC_1, ↓exC_2, ↓exC_3, ↓lensC_s, ↓lenlC_s, ↓lenlC_m, ↓mnC_i, ↓mxC_i, ↓getN_0, ↓getN_s, ↓allocC_e, ↓nilC_p, ↓nilC_e, ↓nilC_f, ↓faC_p, ↓ldC_m, ↓ldK_some, ↓stC_m, ↓stK_some, ↓boxC_m, ↓aggC_m, ↓shC_shrN, ↓ixpC_p, ↓addSC_s, ↓iter_succ, ↓if_true, ↓if_false, ↓reduceIte, shC_shrN, ixpC_p, addSC_s, icmp_eq, icmp_ne, icmp_lt, icmp_le, icmp_gt, icmp_ge, decide_true, decide_false, Bool.not_true, Bool.not_false, Bool.true_and, Bool.and_true, Bool.false_and, Bool.and_false, wrap_i64, wrap_u64, wrap_u32, wrap_u8, cs_put, cs_add, Heap.next_put, Heap.next_add, cells_int, cells_str, cells_bool, cells_ptr, cells_sl, cells_ms, cells_nilp, cells_func, cells_agg, mk_t, mk_f, putA, putN, cond_true, cond_false, Nat.beq_refl, Option.map_some, List.length_cons, List.length_nil, List.drop_succ_cons, List.drop_zero, List.drop_nil, List.take_succ_cons, List.take_zero, List.take_nil, List.cons_append, List.nil_append, List.append_nil, Nat.zero_add, Nat.add_zero, Int.toNat_natCast, Int.toNat_zero, Int.toNat_one, ne_eq, not_true_eq_false, not_false_eq_true, and_self, and_true, true_and, eq_self, Nat.reduceAdd, Nat.reduceLeDiff, Nat.reduceMul, Nat.reduceSub, Nat.left_eq_add, Nat.add_eq_left, Nat.reduceEqDiff, Nat.one_ne_zero, s123, g1, ↓s1, ↓s2, sne, f2', ↓s3, ↓s4, ↓clC_of (c1 _), ↓clC_of (c2 _), g3, openV]
      · have g3 : ¬ (((rd 0 ((s.take 6).drop 4) : Nat) : Int) = 0) := by omega
        have e1 : openM s = some (rd 0 (s.take 4), rd 0 ((s.take 6).drop 4), (s.take 58).drop 6) := by
          unfold openM
          rw [if_neg (by simp [f1, f2]), if_neg f3]
        have f2' : decide (s.take 6 = s.drop 58) = true := decide_eq_true f2
        rw [e1]
        simp (disch := omega) only [↓cmC_int, ↓cmC_str, ↓biC_add, ↓biC_sub, ↓biC_mul, ↓notC_b, ↓negC_i, ↓cviC_i, ↓cssC_s, ↓cnd_t, ↓cnd_f, ↓pickC_t, ↓pickC_f, ↓gdC_tt, ↓gdC_ff, ↓gdC_tf, ↓gdC_ft, ↓gdC_u, ↓elim_some, ↓exC_0, ↓exC_1, ↓exC_2, ↓exC_3, ↓lensC_s, ↓lenlC_s, ↓lenlC_m, ↓mnC_i, ↓mxC_i, ↓getN_0, ↓getN_s, ↓allocC_e, ↓nilC_p, ↓nilC_e, ↓nilC_f, ↓faC_p, ↓ldC_m, ↓ldK_some, ↓stC_m, ↓stK_some, ↓boxC_m, ↓aggC_m, ↓shC_shrN, ↓ixpC_p, ↓addSC_s, ↓iter_succ, ↓if_true, ↓if_false, ↓reduceIte, shC_shrN, ixpC_p, addSC_s, icmp_eq, icmp_ne, icmp_lt, icmp_le, icmp_gt, icmp_ge, decide_true, decide_false, Bool.not_true, Bool.not_false, Bool.true_and, Bool.and_true, Bool.false_and, Bool.and_false, wrap_i64, wrap_u64, wrap_u32, wrap_u8, cs_put, cs_add, Heap.next_put, Heap.next_add, cells_int, cells_str, cells_bool, cells_ptr, cells_sl, cells_ms, cells_nilp, cells_func, cells_agg, mk_t, mk_f, putA, putN, cond_true, cond_false, Nat.beq_refl, Option.map_some, List.length_cons, List.length_nil, List.drop_succ_cons, List.drop_zero, List.drop_nil, List.take_succ_cons, List.take_zero, List.take_nil, List.cons_append, List.nil_append, List.append_nil, Nat.zero_add, Nat.add_zero, Int.toNat_natCast, Int.toNat_zero, Int.toNat_one, ne_eq, not_true_eq_false, not_false_eq_true, and_self, and_true, true_and, eq_self, Nat.reduceAdd, Nat.reduceLeDiff, Nat.reduceMul, Nat.reduceSub, Nat.left_eq_add, Nat.add_eq_left, Nat.reduceEqDiff, Nat.one_ne_zero, s123, g1, ↓s1, ↓s2, sne, f2', ↓s3, ↓s4, ↓clC_of (c1 _), ↓clC_of (c2 _), g3, ↓s5, openV]
    · have e1 : openM s = none := by
        unfold openM
        rw [if_pos (.inr f2)]
      rw [e1]
      simp (disch := omega) only [↓cmC_int, ↓cmC_str, ↓biC_add, ↓biC_sub, ↓biC_mul, ↓notC_b, ↓negC_i, ↓cviC_i, ↓cssC_s, ↓cnd_t, ↓cnd_f, ↓pickC_t, ↓pickC_f, ↓gdC_tt, ↓gdC_ff, ↓gdC_tf, ↓gdC_ft, ↓gdC_u, ↓elim_some, ↓exC_0, ↓exC_1, ↓exC_2, ↓exC_3, ↓lensC_s, ↓lenlC_s, ↓lenlC_m, ↓mnC_i, ↓mxC_i, ↓getN_0, ↓getN_s, ↓allocC_e, ↓nilC_p, ↓nilC_e, ↓nilC_f, ↓faC_p, ↓ldC_m, ↓ldK_some, ↓stC_m, ↓stK_some, ↓boxC_m, ↓aggC_m, ↓shC_shrN, ↓ixpC_p, ↓addSC_s, ↓iter_succ, ↓if_true, ↓if_false, ↓reduceIte, shC_shrN, ixpC_p, addSC_s, icmp_eq, icmp_ne, icmp_lt, icmp_le, icmp_gt, icmp_ge, decide_true, decide_false, Bool.not_true, Bool.not_false, Bool.true_and, Bool.and_true, Bool.false_and, Bool.and_false, wrap_i64, wrap_u64, wrap_u32, wrap_u8, cs_put, cs_add, Heap.next_put, Heap.next_add, cells_int, cells_str, cells_bool, cells_ptr, cells_sl, cells_ms, cells_nilp, cells_func, cells_agg, mk_t, mk_f, putA, putN, cond_true, cond_false, Nat.beq_refl, Option.map_some, List.length_cons, List.length_nil, List.drop_succ_cons, List.drop_zero, List.drop_nil, List.take_succ_cons, List.take_zero, List.take_nil, List.cons_append, List.nil_append, List.append_nil, Nat.zero_add, Nat.add_zero, Int.toNat_natCast, Int.toNat_zero, Int.toNat_one, ne_eq, not_true_eq_false, not_false_eq_true, and_self, and_true, true_and, eq_self, Nat.reduceAdd, Nat.reduceLeDiff, Nat.reduceMul, Nat.reduceSub, Nat.left_eq_add, Nat.add_eq_left, Nat.reduceEqDiff, Nat.one_ne_zero, s123, g1, ↓s1, ↓s2, sne, f2, openV]
  · have g1 : ¬ ((s.length : Int) = 64) := by omega
    have e1 : openM s = none := by
      unfold openM
      rw [if_pos (.inl f1)]
    rw [e1]
    simp (disch := omega) only [↓cmC_int, ↓cmC_str, ↓biC_add, ↓biC_sub, ↓biC_mul, ↓notC_b, ↓negC_i, ↓cviC_i, ↓cssC_s, ↓cnd_t, ↓cnd_f, ↓pickC_t, ↓pickC_f, ↓gdC_tt, ↓gdC_ff, ↓gdC_tf, ↓gdC_ft, ↓gdC_u, ↓elim_some, ↓exC_0, ↓exC_1, ↓exC_2, ↓exC_3, ↓lensC_s, ↓lenlC_s, ↓lenlC_m, ↓mnC_i, ↓mxC_i, ↓getN_0, ↓getN_s, ↓allocC_e, ↓nilC_p, ↓nilC_e, ↓nilC_f, ↓faC_p, ↓ldC_m, ↓ldK_some, ↓stC_m, ↓stK_some, ↓boxC_m, ↓aggC_m, ↓shC_shrN, ↓ixpC_p, ↓addSC_s, ↓iter_succ, ↓if_true, ↓if_false, ↓reduceIte, shC_shrN, ixpC_p, addSC_s, icmp_eq, icmp_ne, icmp_lt, icmp_le, icmp_gt, icmp_ge, decide_true, decide_false, Bool.not_true, Bool.not_false, Bool.true_and, Bool.and_true, Bool.false_and, Bool.and_false, wrap_i64, wrap_u64, wrap_u32, wrap_u8, cs_put, cs_add, Heap.next_put, Heap.next_add, cells_int, cells_str, cells_bool, cells_ptr, cells_sl, cells_ms, cells_nilp, cells_func, cells_agg, mk_t, mk_f, putA, putN, cond_true, cond_false, Nat.beq_refl, Option.map_some, List.length_cons, List.length_nil, List.drop_succ_cons, List.drop_zero, List.drop_nil, List.take_succ_cons, List.take_zero, List.take_nil, List.cons_append, List.nil_append, List.append_nil, Nat.zero_add, Nat.add_zero, Int.toNat_natCast, Int.toNat_zero, Int.toNat_one, ne_eq, not_true_eq_false, not_false_eq_true, and_self, and_true, true_and, eq_self, Nat.reduceAdd, Nat.reduceLeDiff, Nat.reduceMul, Nat.reduceSub, Nat.left_eq_add, Nat.add_eq_left, Nat.reduceEqDiff, Nat.one_ne_zero, s123, g1, openV]
 end
end Go.AM.T
set_option maxRecDepth 100000
set_option linter.unusedVariables false
set_option linter.unusedSimpArgs false
namespace Go.AM.T
open Go Go.AM
theorem ixaC_e {g : Bool} {n z i : Nat} {l : List Val} {j : IntKind} {K : Val → R} (hi : i < n) (hl : i * z + z ≤ l.length) : ixaC g n z (.agg l) (.int j (i : Int)) K = K (mk g ((l.drop (i * z)).take z)) := by
  simp only [ixaC, show ((0 : Int) ≤ (i : Int)) from by omega, show ((i : Int) < (n : Int)) from by omega, decide_true, Bool.and_self, cond_true, Int.toNat_natCast, dropN_eq]
  rw [if_pos (by omega)]
  simp only [Option.bind_some, takeN_eq, List.length_drop]
  rw [if_pos (by omega)]
def hdrB (log gen st base : Nat) : List UInt8 := [87, 83] ++ be 2 log ++ be 4 gen ++ be 4 st ++ be 8 base ++ zeros 8
def encH (log gen st base : Nat) : List UInt8 := hdrB log gen st base ++ be 4 (crc 0 (hdrB log gen st base))
theorem hdrB_len (log gen st base : Nat) : (hdrB log gen st base).length = 28 := by simp [hdrB, be_len, zeros]
theorem encH_len (log gen st base : Nat) : (encH log gen st base).length = 32 := by simp [encH, hdrB_len, be_len]
def hV (log : Int) (gen st : Int) (base : Int) : Val := .agg [.int .i64 log, .int .u32 gen, .int .u32 st, .int .i64 base]
def mayH (log base : Int) : Bool := decide (1 ≤ log) && decide (log ≤ 65535) && decide (0 ≤ base) && decide (base ≤ 1099511627776)
def fV (log gen st base : Nat) : List Val := [.int .u64 log, .int .i64 2, .int .u64 gen, .int .i64 4, .int .u64 st, .int .i64 4, .int .u64 base, .int .i64 8]
section
variable {m : Nat} {h : Heap}
theorem t1_fields {log gen st base : Nat} (hm : 2 ≤ m) (h1 : log < 65536) (h2 : gen < 4294967296) (h3 : st < 4294967296) (h4 : base < 9223372036854775808) (h : Heap) :
    ∃ h', run t1.get m 133 [hV log gen st base] h = some (.agg (fV log gen st base), h') ∧ (Fit h → Fit h') ∧ ∀ b c, h.blk b = some (.cells c) → Fit h → h'.blk b = some (.cells c) := by
  rw [t1_r133 (by omega)]
  have ne : ¬ (h.next = h.next + 1) := by omega
  have ne2 : ¬ (h.next + 1 = h.next) := by omega
  refine ⟨?_, ?_, ?_⟩
  rotate_left
  · simp (disch := omega) only [↓cmC_int, ↓cmC_str, ↓biC_add, ↓biC_sub, ↓biC_mul, ↓notC_b, ↓negC_i, ↓cviC_i, ↓cssC_s, ↓cnd_t, ↓cnd_f, ↓pickC_t, ↓pickC_f, ↓gdC_tt, ↓gdC_ff, ↓gdC_tf, ↓gdC_ft, ↓gdC_u, ↓elim_some, ↓exC_0, ↓exC_1, ↓exC_2, ↓exC_3, ↓lensC_s, ↓lenlC_s, ↓lenlC_m, ↓mnC_i, ↓mxC_i, ↓getN_0, ↓getN_s, ↓allocC_e, ↓nilC_p, ↓nilC_e, ↓nilC_f, ↓faC_p, ↓ldC_m, ↓ldK_some, ↓stC_m, ↓stK_some, ↓boxC_m, ↓aggC_m, ↓shC_shrN, ↓ixpC_p, ↓addSC_s, ↓iter_succ, ↓if_true, ↓if_false, ↓reduceIte, shC_shrN, ixpC_p, addSC_s, icmp_eq, icmp_ne, icmp_lt, icmp_le, icmp_gt, icmp_ge, decide_true, decide_false, Bool.not_true, Bool.not_false, Bool.true_and, Bool.and_true, Bool.false_and, Bool.and_false, wrap_i64, wrap_u64, wrap_u32, wrap_u8, cs_put, cs_add, Heap.next_put, Heap.next_add, cells_int, cells_str, cells_bool, cells_ptr, cells_sl, cells_ms, cells_nilp, cells_func, cells_agg, mk_t, mk_f, putA, putN, cond_true, cond_false, Nat.beq_refl, Option.map_some, List.length_cons, List.length_nil, List.drop_succ_cons, List.drop_zero, List.drop_nil, List.take_succ_cons, List.take_zero, List.take_nil, List.cons_append, List.nil_append, List.append_nil, Nat.zero_add, Nat.add_zero, Int.toNat_natCast, Int.toNat_zero, Int.toNat_one, ne_eq, not_true_eq_false, not_false_eq_true, and_self, and_true, true_and, eq_self, Nat.reduceAdd, Nat.reduceLeDiff, Nat.reduceMul, Nat.reduceSub, Nat.left_eq_add, Nat.add_eq_left, Nat.reduceEqDiff, Nat.one_ne_zero, s133, hV, ne, ne2]
    rfl
  refine ⟨fun hf => ?_, fun b c hb hf => ?_⟩
  · exact ((hf.add _).add _).put _ (by simp)
  · have := hf.lt hb
    rw [blk_put_ne _ (by omega), blk_add_ne _ (by simp only [Heap.next_add]; omega), blk_add_ne _ (by omega)]
    exact hb
theorem encH_step {q n i : Nat} (hq : 3 ≤ q) (hi : i < 4) {l : List Val} {v sz : Nat} (hl : (l.drop (i * 2)).take 2 = [.int .u64 v, .int .i64 sz]) (hl2 : i * 2 + 2 ≤ l.length) (h1 : 1 ≤ sz) (h8 : sz ≤ 8) (hv : v < 256 ^ sz) {y : List UInt8} (hy : y.length < 1000) {V : Val} {p : Nat} {h : Heap} (hf : Fit h)
    (next : ∀ h', Fit h' → ∃ h'', Fit h'' ∧ iter p (fun again0 xs h => s87_l0 (run t1.get q) n again0 (.agg l) (getN xs 0) (getN xs 1) h) [.str (y ++ be sz v), .int .i64 (i + 1 : Nat)] h' = some (V, h'')) :
    ∃ h'', Fit h'' ∧ iter (p + 1) (fun again0 xs h => s87_l0 (run t1.get q) n again0 (.agg l) (getN xs 0) (getN xs 1) h) [.str y, .int .i64 i] h = some (V, h'') := by
  have hp := pow256 h8
  let H := (h.add (.cells [.int .u64 0, .int .i64 0])).put h.next (.cells [.int .u64 v, .int .i64 sz])
  obtain ⟨h2, hf2, nx⟩ := next H ((hf.add _).put _ (by simp))
  refine ⟨h2, hf2, ?_⟩
  rw [iter_succ]
  generalize iter p (fun again0 xs h => s87_l0 (run t1.get q) n again0 (.agg l) (getN xs 0) (getN xs 1) h) = G at nx ⊢
  have g1 : (i : Int) < 4 := by omega
  have e1 : ∀ K, ixaC true 4 2 (.agg l) (.int .i64 (i : Int)) K = K (.agg [.int .u64 v, .int .i64 sz]) := fun K => by rw [ixaC_e hi hl2, hl]; rfl
  have e2 : ∀ G, run t1.get q 134 [.int .u64 (v : Int), .int .i64 (sz : Int)] G = some (.tup [.str (be sz v), .int .i64 0], G) := fun G => by rw [t1_r134 (by omega)]; exact p_fixed h1 h8 hv
  have e3 : ∀ K, addSC (.str y) (.str (be sz v)) K = K (.str (y ++ be sz v)) := fun K => addSC_s _ _ (by rw [be_len]; omega)
  have e8 : (i : Int) + 1 = ((i + 1 : Nat) : Int) := rfl
  simp (disch := omega) only [↓cmC_int, ↓cmC_str, ↓biC_add, ↓biC_sub, ↓biC_mul, ↓notC_b, ↓negC_i, ↓cviC_i, ↓cssC_s, ↓cnd_t, ↓cnd_f, ↓pickC_t, ↓pickC_f, ↓gdC_tt, ↓gdC_ff, ↓gdC_tf, ↓gdC_ft, ↓gdC_u, ↓elim_some, ↓exC_0, ↓exC_1, ↓exC_2, ↓exC_3, ↓lensC_s, ↓lenlC_s, ↓lenlC_m, ↓mnC_i, ↓mxC_i, ↓getN_0, ↓getN_s, ↓allocC_e, ↓nilC_p, ↓nilC_e, ↓nilC_f, ↓faC_p, ↓ldC_m, ↓ldK_some, ↓stC_m, ↓stK_some, ↓boxC_m, ↓aggC_m, ↓shC_shrN, ↓ixpC_p, ↓addSC_s, ↓iter_succ, ↓if_true, ↓if_false, ↓reduceIte, shC_shrN, ixpC_p, addSC_s, icmp_eq, icmp_ne, icmp_lt, icmp_le, icmp_gt, icmp_ge, decide_true, decide_false, Bool.not_true, Bool.not_false, Bool.true_and, Bool.and_true, Bool.false_and, Bool.and_false, wrap_i64, wrap_u64, wrap_u32, wrap_u8, cs_put, cs_add, Heap.next_put, Heap.next_add, cells_int, cells_str, cells_bool, cells_ptr, cells_sl, cells_ms, cells_nilp, cells_func, cells_agg, mk_t, mk_f, putA, putN, cond_true, cond_false, Nat.beq_refl, Option.map_some, List.length_cons, List.length_nil, List.drop_succ_cons, List.drop_zero, List.drop_nil, List.take_succ_cons, List.take_zero, List.take_nil, List.cons_append, List.nil_append, List.append_nil, Nat.zero_add, Nat.add_zero, Int.toNat_natCast, Int.toNat_zero, Int.toNat_one, ne_eq, not_true_eq_false, not_false_eq_true, and_self, and_true, true_and, eq_self, Nat.reduceAdd, Nat.reduceLeDiff, Nat.reduceMul, Nat.reduceSub, Nat.left_eq_add, Nat.add_eq_left, Nat.reduceEqDiff, Nat.one_ne_zero, s87_l0, g1, ↓e1, ↓clC_of (e2 _), ↓e3, e8]
  exact nx
theorem t1_hencode {log gen st base : Nat} (hm : 30 ≤ m) (hh : mayH log base = true) (h2 : gen < 4294967296) (h3 : st < 4294967296) {h : Heap} (hf : Fit h) :
    ∃ h', Fit h' ∧ run t1.get m 87 [hV log gen st base] h = some (.tup [.str (encH log gen st base), .int .i64 0], h') := by
  simp only [mayH, Bool.and_eq_true, decide_eq_true_eq] at hh
  obtain ⟨⟨⟨m1, m2⟩, m3⟩, m4⟩ := hh
  let H0 := h.add (.cells [.int .i64 log, .int .u32 gen, .int .u32 st, .int .i64 base])
  have hf0 : Fit H0 := hf.add _
  obtain ⟨H1, e1, hf1, -⟩ := t1_fields (m := m - 1) (log := log) (gen := gen) (st := st) (base := base) (by omega) (by omega) h2 h3 (by omega) H0
  have l5 : ∀ (hh : Heap), Fit hh → ∃ h'', Fit h'' ∧ iter ((m - 6) + 1) (fun again0 xs h => s87_l0 (run t1.get (m - 1)) (m - 1) again0 (.agg (fV log gen st base)) (getN xs 0) (getN xs 1) h) [.str ([87, 83] ++ be 2 log ++ be 4 gen ++ be 4 st ++ be 8 base), .int .i64 (3 + 1 : Nat)] hh = some (Val.tup [.str (encH log gen st base), .int .i64 0], h'') := by
    intro hh hfh
    refine ⟨hh, hfh, ?_⟩
    have g1 : ¬ (((3 + 1 : Nat) : Int) < 4) := by decide
    have a1 : ∀ K, addSC (.str ([87, 83] ++ be 2 log ++ be 4 gen ++ be 4 st ++ be 8 base)) (.str [0, 0, 0, 0, 0, 0, 0, 0]) K = K (.str (hdrB log gen st base)) := fun K => by rw [addSC_s _ _ (by simp [be_len])]; rfl
    have a2 : ∀ G, run t1.get (m - 1) 135 [.int .u32 0, .str (hdrB log gen st base)] G = some (.int .u32 (crc 0 (hdrB log gen st base) : Nat), G) := fun G => by rw [t1_r135 (by omega)]; exact p_crc (b := 0) (by decide) (by rw [hdrB_len]; decide)
    have hc := crc_lt 0 (hdrB log gen st base)
    have a3 : ∀ G, run t1.get (m - 1) 134 [.int .u64 ((crc 0 (hdrB log gen st base) : Nat) : Int), .int .i64 4] G = some (.tup [.str (be 4 (crc 0 (hdrB log gen st base))), .int .i64 0], G) := fun G => by rw [t1_r134 (by omega)]; exact p_fixed (n := 4) (by omega) (by omega) (by omega)
    have a4 : ∀ K, addSC (.str (hdrB log gen st base)) (.str (be 4 (crc 0 (hdrB log gen st base)))) K = K (.str (encH log gen st base)) := fun K => addSC_s _ _ (by rw [hdrB_len, be_len]; decide)
    have w1 : ∀ K, cviC .u64 (.int .u32 ((crc 0 (hdrB log gen st base) : Nat) : Int)) K = K (.int .u64 ((crc 0 (hdrB log gen st base) : Nat) : Int)) := fun K => by rw [cviC_i, wrap_u64 (by omega) (by omega)]
    rw [iter_succ]
    generalize iter (m - 6) _ = G
    show s87_l0 (run t1.get (m - 1)) (m - 1) G (.agg (fV log gen st base)) (.str ([87, 83] ++ be 2 log ++ be 4 gen ++ be 4 st ++ be 8 base)) (.int .i64 (3 + 1 : Nat)) hh = _
    unfold s87_l0
    simp only [cmC_int, icmp_lt, g1, decide_false, cnd_f, a1, clC_of (a2 _), w1, clC_of (a3 _), exC_0, exC_1, a4]
  have l4 := fun (hh : Heap) (hfh : Fit hh) => encH_step (q := m - 1) (n := m - 1) (i := 3) (p := (m - 6) + 1) (by omega) (by omega) (l := fV log gen st base) (v := base) (sz := 8) rfl (Nat.le_refl _) (by omega) (by omega) (by omega) (y := [87, 83] ++ be 2 log ++ be 4 gen ++ be 4 st) (by simp [be_len]) (V := Val.tup [.str (encH log gen st base), .int .i64 0]) hfh l5
  have l3 := fun (hh : Heap) (hfh : Fit hh) => encH_step (q := m - 1) (n := m - 1) (i := 2) (p := (m - 6) + 1 + 1) (by omega) (by omega) (l := fV log gen st base) (v := st) (sz := 4) rfl (show 6 ≤ 8 by decide) (by omega) (by omega) (by omega) (y := [87, 83] ++ be 2 log ++ be 4 gen) (by simp [be_len]) (V := Val.tup [.str (encH log gen st base), .int .i64 0]) hfh l4
  have l2 := fun (hh : Heap) (hfh : Fit hh) => encH_step (q := m - 1) (n := m - 1) (i := 1) (p := (m - 6) + 1 + 1 + 1) (by omega) (by omega) (l := fV log gen st base) (v := gen) (sz := 4) rfl (show 4 ≤ 8 by decide) (by omega) (by omega) (by omega) (y := [87, 83] ++ be 2 log) (by simp [be_len]) (V := Val.tup [.str (encH log gen st base), .int .i64 0]) hfh l3
  obtain ⟨h', hf', e⟩ := encH_step (q := m - 1) (n := m - 1) (i := 0) (p := (m - 6) + 1 + 1 + 1 + 1) (by omega) (by omega) (l := fV log gen st base) (v := log) (sz := 2) rfl (show 2 ≤ 8 by decide) (by omega) (by omega) (by omega) (y := [87, 83]) (by simp) (V := Val.tup [.str (encH log gen st base), .int .i64 0]) (hf1 hf0) l2
  refine ⟨h', hf', ?_⟩
  rw [t1_r87 (by omega)]
  have g1 : ¬ ((log : Int) < 1) := by omega
  have g2 : ¬ ((65535 : Int) < (log : Int)) := by omega
  have g3 : ¬ ((base : Int) < 0) := by omega
  have g4 : ¬ ((1099511627776 : Int) < (base : Int)) := by omega
  have bx : ∀ K, boxC 4 (hV log gen st base) h K = K (.ptr h.next 0) H0 := fun K => boxC_e rfl
  have hb : H0.blk h.next = some (.cells [.int .i64 log, .int .u32 gen, .int .u32 st, .int .i64 base]) := blk_add_same _
  have l0 : ∀ K, ldC false 1 (.ptr h.next 0) H0 K = K (.int .i64 log) := fun K => by rw [ldC_p hb (by simp)]; rfl
  have l3' : ∀ K, ldC false 1 (.ptr h.next 3) H0 K = K (.int .i64 base) := fun K => by rw [ldC_p hb (by simp)]; rfl
  have la : ∀ K, ldC true 4 (.ptr h.next 0) H0 K = K (hV log gen st base) := fun K => by rw [ldC_p hb (by simp)]; rfl
  rw [show m - 6 + 1 + 1 + 1 + 1 + 1 = m - 1 by omega] at e
  simp only [s87, bx, faC_p, Nat.add_zero, Nat.zero_add, l0, l3', cmC_int, icmp_lt, icmp_gt, g1, g2, g3, g4, decide_false, gdC_ff, elim_some, pickC_f, cnd_f, la, clC_of e1]
  exact e
 end
end Go.AM.T
set_option maxRecDepth 100000
set_option linter.unusedVariables false
set_option linter.unusedSimpArgs false
namespace Go.AM.T
open Go Go.AM
section
variable {m : Nat} {h : Heap}
theorem t1_hencode_bad {log base gen st : Int} (hm : 3 ≤ m) (hh : mayH log base = false) {h : Heap} (hf : Fit h) :
    ∃ h', Fit h' ∧ run t1.get m 87 [hV log gen st base] h = some (.tup [.str [], .int .i64 1], h') := by
  let H0 := h.add (.cells [.int .i64 log, .int .u32 gen, .int .u32 st, .int .i64 base])
  refine ⟨H0, hf.add _, ?_⟩
  rw [t1_r87 (by omega)]
  have bx : ∀ K, boxC 4 (hV log gen st base) h K = K (.ptr h.next 0) H0 := fun K => boxC_e rfl
  have hb : H0.blk h.next = some (.cells [.int .i64 log, .int .u32 gen, .int .u32 st, .int .i64 base]) := blk_add_same _
  have l0 : ∀ K, ldC false 1 (.ptr h.next 0) H0 K = K (.int .i64 log) := fun K => by rw [ldC_p hb (by simp)]; rfl
  have l3' : ∀ K, ldC false 1 (.ptr h.next 3) H0 K = K (.int .i64 base) := fun K => by rw [ldC_p hb (by simp)]; rfl
  by_cases c1 : log < 1
  · simp only [s87, bx, faC_p, Nat.add_zero, l0, cmC_int, icmp_lt, c1, decide_true, gdC_tf, gdC_u, pickC_t, cnd_t]
  by_cases c2 : 65535 < log
  · simp only [s87, bx, faC_p, Nat.add_zero, l0, cmC_int, icmp_lt, icmp_gt, c1, c2, decide_false, decide_true, gdC_ff, elim_some, pickC_f, gdC_tf, gdC_u, pickC_t, cnd_t]
  by_cases c3 : base < 0
  · simp only [s87, bx, faC_p, Nat.add_zero, Nat.zero_add, l0, l3', cmC_int, icmp_lt, icmp_gt, c1, c2, c3, decide_false, decide_true, gdC_ff, elim_some, pickC_f, gdC_tf, gdC_u, pickC_t, cnd_t]
  by_cases c4 : 1099511627776 < base
  · simp only [s87, bx, faC_p, Nat.add_zero, Nat.zero_add, l0, l3', cmC_int, icmp_lt, icmp_gt, c1, c2, c3, c4, decide_false, decide_true, gdC_ff, elim_some, pickC_f, gdC_tf, gdC_u, pickC_t, cnd_t]
  · exfalso
    have : mayH log base = true := by
      simp only [mayH, Bool.and_eq_true, decide_eq_true_eq]
      omega
    rw [this] at hh; cases hh
 end
end Go.AM.T
