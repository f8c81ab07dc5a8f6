import Derived.Test.YtfpkdeokpomocaaG45
import Derived.Test.YtfpkdeokpomocaaQA
import Derived.Test.YtfpkdeokpomocaaAMDr5
import Derived.Test.YtfpkdeokpomocaaProg
import Derived.KernelRfl
import Derived.Shelf.Strings.OnBuilder
import Derived.Shelf.Strings.Repeat
import Derived.Test.YtfpkdeokpomocaaAMPrim
import Derived.Test.YtfpkdeokpomocaaAMTab
import Derived.Test.YtfpkdeokpomocaaG43
import Derived.Test.YtfpkdeokpomocaaG44
set_option linter.constructorNameAsVariable false
set_option linter.unusedVariables false
set_option linter.unusedSimpArgs false
set_option maxRecDepth 100000
set_option linter.unusedVariables false
set_option linter.unusedSimpArgs false
namespace Go.AM.T
open Go Go.AM
structure Sg where
  num : Nat
  log : Nat
  gen : Nat
  st : Nat
  base : Nat
  l : List Fr
  e : Nat
  shut : Bool
def sgC (bv : Nat) (ws : Own) (s : Sg) : List Val := [.ptr bv 0, .int .i64 s.num, .int .i64 s.log, .int .u32 s.gen, .int .u32 s.st, .int .i64 s.base, .sl ws 2 (s.l.map frV), .int .i64 s.e, .bool s.shut]
def Dk.writes (st ct : Nat) : Nat → List (List UInt8) → Dk → Dk
  | _, [], d => d
  | a, p :: ps, d => Dk.writes st ct (a + 1) ps (d.write a (sealB st ct p))
theorem writes_lies (st ct : Nat) : ∀ (ps : List (List UInt8)) (a : Nat) (d : Dk), (Dk.writes st ct a ps d).lies = d.lies
  | [], _, _ => rfl
  | p :: ps, a, d => by rw [Dk.writes, writes_lies st ct ps]; rfl
theorem writes_waits (st ct : Nat) : ∀ (ps : List (List UInt8)) (a : Nat) (d : Dk), (Dk.writes st ct a ps d).waits.length = d.waits.length + ps.length
  | [], _, _ => rfl
  | p :: ps, a, d => by rw [Dk.writes, writes_waits st ct ps]; simp [Dk.write]; omega
section
variable {m : Nat} {h : Heap} {bv bd bl f n steps : Nat} {w : Own} {d : Dk}
theorem ViewQ.other (hv : ViewQ h bv bd bl w f n steps d) {b : Nat} {l : List Val} (hb : h.blk b = some (.cells l)) (hl : 7 ≤ l.length) : ¬ ownV bv bd w b := by
  intro ho
  rcases ho with rfl | rfl | ⟨t, ht, rfl⟩
  · have := hv.kv; rw [hb] at this; cases this; simp at hl
  · have := hv.dk.k; rw [hb] at this; cases this; simp at hl
  · exact hv.dk.tokne hb _ ht rfl
theorem t5_vsize (hv : ViewQ h bv bd bl w f n steps d) (hm : 2 ≤ m) : run t5.get m 122 [.ptr bv 0] h = some (.int .i64 n, h) := by
  rw [t5_r122 (by omega)]
  have c : ∀ K, ceC .p false (.ptr bv 0) .nilp K = K (.bool false) := fun K => rfl
  have l : ∀ K, ldC false 1 (.ptr bv 2) h K = K (.int .i64 n) := fun K => by rw [ldC_p hv.kv (by simp)]; rfl
  simp only [s122, c, cnd_f, nilC_p, faC_p, Nat.zero_add, l]
theorem t5_first (hv : ViewQ h bv bd bl w f n steps d) (hm : 4 ≤ m) (hn : 2 ≤ n) (hn2 : n < 100000) {k : Nat} (hk : k < (n - 2) / 16) : run t5.get m 76 [.ptr bv 0, .int .i64 k] h = some (.tup [.int .i64 (2 + 16 * k : Nat), .int .i64 0], h) := by
  rw [t5_r76 (by omega)]
  have c : ∀ K, ceC .p false (.ptr bv 0) .nilp K = K (.bool false) := fun K => rfl
  have e := t5_vsize hv (m := m - 1) (by omega)
  have g1 : icmp .lt (k : Int) 0 = false := by rw [icmp_lt]; exact decide_eq_false (by omega)
  have a1 : IntKind.i64.wrap ((n : Int) - 2) = ((n - 2 : Nat) : Int) := i64sub (b := 2) (by omega) (by omega)
  have a2 : IntKind.i64.wrap (((n - 2 : Nat) : Int).tdiv 16) = (((n - 2) / 16 : Nat) : Int) := by
    rw [Int.tdiv_eq_ediv_of_nonneg (by omega)]
    have : ((n - 2 : Nat) : Int) / 16 = (((n - 2) / 16 : Nat) : Int) := rfl
    rw [this, wrap_i64 (by omega) (by omega)]
  have g2 : icmp .ge (k : Int) (((n - 2) / 16 : Nat) : Int) = false := decide_eq_false (by omega)
  have a3 : IntKind.i64.wrap (16 * (k : Int)) = ((16 * k : Nat) : Int) := by rw [wrap_i64 (by omega) (by omega)]; omega
  have a4 : IntKind.i64.wrap (2 + ((16 * k : Nat) : Int)) = ((2 + 16 * k : Nat) : Int) := by rw [wrap_i64 (by omega) (by omega)]; omega
  simp only [s76, c, cnd_f, cmC_int, g1, gdC_ff, elim_some, clC_of e, biC_sub, a1, biC_quo (show (16 : Int) ≠ 0 by decide), a2, g2, pickC_f, biC_mul, a3, biC_add, a4]
theorem t5_first_bad (hv : ViewQ h bv bd bl w f n steps d) (hm : 4 ≤ m) (hn : 2 ≤ n) (hn2 : n < 100000) {k : Int} (hk : k < 0 ∨ (((n - 2) / 16 : Nat) : Int) ≤ k) : run t5.get m 76 [.ptr bv 0, .int .i64 k] h = some (.tup [.int .i64 0, .int .i64 20], h) := by
  rw [t5_r76 (by omega)]
  have c : ∀ K, ceC .p false (.ptr bv 0) .nilp K = K (.bool false) := fun K => rfl
  have e := t5_vsize hv (m := m - 1) (by omega)
  by_cases c1 : k < 0
  · have g1 : icmp .lt k 0 = true := decide_eq_true c1
    simp only [s76, c, cnd_f, cmC_int, g1, gdC_tf, gdC_u, pickC_t, cnd_t]
  · have g1 : icmp .lt k 0 = false := decide_eq_false c1
    have a1 : IntKind.i64.wrap ((n : Int) - 2) = ((n - 2 : Nat) : Int) := i64sub (b := 2) (by omega) (by omega)
    have a2 : IntKind.i64.wrap (((n - 2 : Nat) : Int).tdiv 16) = (((n - 2) / 16 : Nat) : Int) := by
      rw [Int.tdiv_eq_ediv_of_nonneg (by omega)]
      have : ((n - 2 : Nat) : Int) / 16 = (((n - 2) / 16 : Nat) : Int) := rfl
      rw [this, wrap_i64 (by omega) (by omega)]
    have g2 : icmp .ge k (((n - 2) / 16 : Nat) : Int) = true := decide_eq_true (by omega)
    simp only [s76, c, cnd_f, cmC_int, g1, gdC_ff, elim_some, clC_of e, biC_sub, a1, biC_quo (show (16 : Int) ≠ 0 by decide), a2, g2, pickC_f, cnd_t]
theorem loop_swrite {q nn : Nat} (hq : 30 ≤ q) {u ws : Own} {sp st a ct fr : Nat} {sg : Sg} {ps : List (List UInt8)} (hst : sg.st < 4294967296) (hct1 : 1 ≤ ct) (hct : ct < 65536) (hps : ∀ p ∈ ps, p.length = 52) (hb : fr + a + ps.length ≤ n) (hn2 : n < 100000) :
    ∀ (k i : Nat), i + k = ps.length → ∀ (m : Nat), k < m → ∀ (h : Heap) (w : Own) (d : Dk) (steps : Nat), Fit h → ViewQ h bv bd bl w f n steps d → h.blk sp = some (.cells (sgC bv ws sg)) → d.waits.length + k < 90000 → steps + k < 900000000 →
    ∃ w' h', iter m (fun again0 ys h => s85_l0 (run t5.get q) nn again0 (.ptr sp 0) (.int .i64 a) (.int .i64 ct) (.int .i64 fr) (.sl u 1 (ps.map Val.str)) (.int .i64 ps.length) (getN ys 0) h) [.int .i64 i] h = some (.int .i64 0, h') ∧ Fit h' ∧ ViewQ h' bv bd bl w' f n (steps + k) (Dk.writes sg.st ct (f + (fr + a + i)) (ps.drop i) d) ∧ Stays (ownV bv bd w) h h' ∧ (∀ b, b < h.next → ownV bv bd w' b → ownV bv bd w b)
  | 0, i, hi, m, hm, h, w, d, steps, hf, hv, hs, hw, hsteps => by
    obtain ⟨m, rfl⟩ : ∃ q, m = q + 1 := ⟨m - 1, by omega⟩
    have : i = ps.length := by omega
    subst this
    have g1 : icmp .lt (ps.length : Int) (ps.length : Int) = false := decide_eq_false (by omega)
    refine ⟨w, h, ?_, hf, ?_, .refl _ _, fun _ _ h => h⟩
    · rw [iter_succ]
      simp only [getN_0, s85_l0, cmC_int, g1, cnd_f]
    · rw [List.drop_length]; exact hv
  | k + 1, i, hi, m, hm, h, w, d, steps, hf, hv, hs, hw, hsteps => by
    obtain ⟨m, rfl⟩ : ∃ q, m = q + 1 := ⟨m - 1, by omega⟩
    have hil : i < ps.length := by omega
    have hpl := hps ps[i] (List.getElem_mem hil)
    have hll := hv.dk.ll
    obtain ⟨w1, h1, e1, hf1, hv1, s1, o1⟩ := t5_vwrite hv hf (m := q) (i := fr + a + i) (s := sealB sg.st ct ps[i]) (by omega) (by omega) (sealB_len _ _ hpl) (by omega) (by omega)
    have hs1 := s1.keep _ _ hs (hv.other hs (by simp [sgC]))
    obtain ⟨w2, h2, e2, hf2, hv2, s2, o2⟩ := loop_swrite hq (u := u) (ws := ws) (st := st) hst hct1 hct hps hb hn2 k (i + 1) (by omega) m (by omega) h1 w1 _ (steps + 1) hf1 hv1 hs1 (by simp [Dk.write]; omega) (by omega)
    refine ⟨w2, h2, ?_, hf2, ?_, s1.trans s2 (fun b hb ho => o1 b hb ho) hf, fun b hb ho => o1 b hb (o2 b (by have := s1.nx; omega) ho)⟩
    · rw [iter_succ]
      generalize iter m (fun again0 ys h => s85_l0 (run t5.get q) nn again0 (.ptr sp 0) (.int .i64 a) (.int .i64 ct) (.int .i64 fr) (.sl u 1 (ps.map Val.str)) (.int .i64 ps.length) (getN ys 0) h) = G at e2 ⊢
      have g1 : icmp .lt (i : Int) (ps.length : Int) = true := decide_eq_true (by omega)
      have x1 : ∀ K, ixsC 1 (.sl u 1 (ps.map Val.str)) (.int .i64 (i : Int)) K = K (.ep [.str ps[i]]) := fun K => ixsC_sl (v := .str ps[i]) (by rw [List.getElem?_map, List.getElem?_eq_getElem hil]; rfl)
      have x2 : ∀ K, ldC false 1 (.ep [.str ps[i]]) h K = K (.str ps[i]) := fun K => rfl
      have l4 : ∀ K, ldC false 1 (.ptr sp 4) h K = K (.int .u32 sg.st) := fun K => by rw [ldC_p hs (by simp [sgC])]; rfl
      have l0 : ∀ K, ldC false 1 (.ptr sp 0) h K = K (.ptr bv 0) := fun K => by rw [ldC_p hs (by simp [sgC])]; rfl
      have es : run t5.get q 132 [.int .u32 sg.st, .int .i64 ct, .str ps[i]] h = some (.tup [.str (sealB sg.st ct ps[i]), .int .i64 0], h) := by rw [t5_r132 (by omega)]; exact p_seal hst hct1 (by omega) hpl
      have g0 : icmp .ne (0 : Int) 0 = false := rfl
      have a1 : IntKind.i64.wrap ((fr : Int) + (a : Int)) = ((fr + a : Nat) : Int) := by rw [wrap_i64 (by omega) (by omega)]; rfl
      have a2 : IntKind.i64.wrap (((fr + a : Nat) : Int) + (i : Int)) = ((fr + a + i : Nat) : Int) := by rw [wrap_i64 (by omega) (by omega)]; rfl
      simp only [getN_0, s85_l0, cmC_int, g1, cnd_t, x1, x2, nilC_p, faC_p, Nat.zero_add, Nat.add_zero, l4, clC_of es, exC_0, exC_1, g0, cnd_f, l0, biC_add, a1, a2, clC_of e1, i64s (show i < 9223372036854775807 by omega)]
      exact e2
    · rw [drop_cons hil, Dk.writes]
      rw [show steps + (k + 1) = steps + 1 + k by omega, show f + (fr + a + i) + 1 = f + (fr + a + (i + 1)) by omega]
      exact hv2
theorem t5_swrite (hv : ViewQ h bv bd bl w f n steps d) (hf : Fit h) {u ws : Own} {sp a ct : Nat} {sg : Sg} {ps : List (List UInt8)} (hm : ps.length + 40 ≤ m) (hs : h.blk sp = some (.cells (sgC bv ws sg))) (hst : sg.st < 4294967296) (hct1 : 1 ≤ ct) (hct : ct < 65536) (hps : ∀ p ∈ ps, p.length = 52) (hn : 2 ≤ n) (hn2 : n < 100000) (hk : sg.num < (n - 2) / 16) (ha : a + ps.length ≤ 16) (hw : d.waits.length + ps.length < 90000) (hst2 : steps + ps.length < 900000000) :
    ∃ w' h', run t5.get m 85 [.ptr sp 0, .int .i64 a, .int .i64 ct, .sl u 1 (ps.map Val.str)] h = some (.int .i64 0, h') ∧ Fit h' ∧ ViewQ h' bv bd bl w' f n (steps + ps.length) (Dk.writes sg.st ct (f + (2 + 16 * sg.num) + a) ps d) ∧ Stays (ownV bv bd w) h h' ∧ (∀ b, b < h.next → ownV bv bd w' b → ownV bv bd w b) := by
  obtain ⟨w', h', e, r1, r2, r3, r4⟩ := loop_swrite (q := m - 1) (nn := m - 1) (bv := bv) (bd := bd) (bl := bl) (f := f) (n := n) (by omega) (u := u) (ws := ws) (sp := sp) (st := 0) (a := a) (ct := ct) (fr := 2 + 16 * sg.num) (sg := sg) hst hct1 hct hps (by omega) hn2 ps.length 0 (by omega) (m - 1) (by omega) h w d steps hf hv hs hw hst2
  refine ⟨w', h', ?_, r1, ?_, r3, r4⟩
  · rw [t5_r85 (by omega)]
    have l0 : ∀ K, ldC false 1 (.ptr sp 0) h K = K (.ptr bv 0) := fun K => by rw [ldC_p hs (by simp [sgC])]; rfl
    have l1 : ∀ K, ldC false 1 (.ptr sp 1) h K = K (.int .i64 sg.num) := fun K => by rw [ldC_p hs (by simp [sgC])]; rfl
    have ef := t5_first hv (m := m - 1) (by omega) hn hn2 hk
    have g0 : icmp .ne (0 : Int) 0 = false := rfl
    simp only [s85, nilC_p, faC_p, Nat.zero_add, Nat.add_zero, l0, l1, clC_of ef, exC_0, exC_1, cmC_int, g0, cnd_f, lenlC_s, List.length_map]
    exact e
  · rw [List.drop_zero, show f + (2 + 16 * sg.num + a + 0) = f + (2 + 16 * sg.num) + a by omega] at r2
    exact r2
 end
end Go.AM.T
set_option maxRecDepth 100000
set_option linter.unusedVariables false
set_option linter.unusedSimpArgs false
namespace Go.AM.T
open Go Go.AM
def Dk.sec (d : Dk) (b : Nat) : Sec := (List.range 16).map fun k => d.read (b + k)
theorem sec_len (d : Dk) (b : Nat) : (d.sec b).length = 16 := by simp [Dk.sec]
theorem read_write (d : Dk) (i j : Nat) (s : List UInt8) : (d.write i s).read j = if i = j then s else d.read j := by
  simp only [Dk.read, Dk.write, lastW, List.foldl_append, List.foldl_cons, List.foldl_nil]
theorem sec_write (d : Dk) (b a : Nat) (s : List UInt8) (ha : a < 16) : (d.write (b + a) s).sec b = (d.sec b).set a s := by
  apply List.ext_getElem?
  intro j
  by_cases hj : j < 16
  · rw [List.getElem?_set]
    simp only [Dk.sec, List.getElem?_map, List.getElem?_range hj, Option.map_some, read_write, List.length_map, List.length_range]
    by_cases e : a = j
    · subst e; simp [ha]
    · rw [if_neg (by omega), if_neg e]
  · rw [List.getElem?_eq_none (by rw [sec_len]; omega), List.getElem?_eq_none (by rw [List.length_set, sec_len]; omega)]
theorem sec_write_other (d : Dk) (b i : Nat) (s : List UInt8) (hi : i < b ∨ b + 16 ≤ i) : (d.write i s).sec b = d.sec b := by
  apply List.map_congr_left
  intro k hk
  have : k < 16 := by simpa using hk
  rw [read_write, if_neg (by omega)]
theorem sec_writes (st ct b : Nat) : ∀ (ps : List (List UInt8)) (a : Nat) (d : Dk), a + ps.length ≤ 16 → (Dk.writes st ct (b + a) ps d).sec b = putM st ct a ps (d.sec b)
  | [], a, d, _ => rfl
  | p :: ps, a, d, h => by
    simp only [List.length_cons] at h
    rw [Dk.writes, putM, show b + a + 1 = b + (a + 1) by omega, sec_writes st ct b ps (a + 1) _ (by omega), sec_write _ _ _ _ (by omega)]
theorem sec_writes_other (st ct b : Nat) : ∀ (ps : List (List UInt8)) (a : Nat) (d : Dk), a + ps.length ≤ b ∨ b + 16 ≤ a → (Dk.writes st ct a ps d).sec b = d.sec b
  | [], a, d, _ => rfl
  | p :: ps, a, d, h => by
    simp only [List.length_cons] at h
    rw [Dk.writes, sec_writes_other st ct b ps (a + 1) _ (by omega), sec_write_other _ _ _ _ (by omega)]
def err20 : Val := .tup [.nilp, .int .i64 20]
section
variable {m : Nat} {h : Heap} {bv bd bl f n steps : Nat} {w : Own} {d : Dk}
theorem t5_create_range (hv : ViewQ h bv bd bl w f n steps d) (hf : Fit h) (hm : 6 ≤ m) (hn : 2 ≤ n) (hn2 : n < 100000) {k a b c e : Int} (hk : k < 0 ∨ (((n - 2) / 16 : Nat) : Int) ≤ k) :
    run t5.get m 30 [.ptr bv 0, .int .i64 k, hV a b c e] h = some (.tup [.nilp, .int .i64 20], h.add (.cells [.int .i64 a, .int .u32 b, .int .u32 c, .int .i64 e])) := by
  rw [t5_r30 (by omega)]
  have bx : ∀ K, boxC 4 (hV a b c e) h K = K (.ptr h.next 0) (h.add (.cells [.int .i64 a, .int .u32 b, .int .u32 c, .int .i64 e])) := fun K => boxC_e rfl
  have hv1 := hv.stays ((Stays.refl (fun _ => False) h).add hf (.cells [.int .i64 a, .int .u32 b, .int .u32 c, .int .i64 e])) (fun h => h) (fun h => h) (fun h => h) (fun _ _ h => h)
  have ef := t5_first_bad hv1 (m := m - 1) (by omega) hn hn2 hk
  have g0 : icmp .ne (20 : Int) 0 = true := rfl
  simp only [s30, bx, clC_of ef, exC_0, exC_1, cmC_int, g0, cnd_t]
theorem t5_create_arg (hv : ViewQ h bv bd bl w f n steps d) (hf : Fit h) (hm : 6 ≤ m) (hn : 2 ≤ n) (hn2 : n < 100000) {k gen st : Nat} {log base : Int} (hk : k < (n - 2) / 16) (hh : mayH log base = false) (h2 : gen < 4294967296) (h3 : st < 4294967296) :
    run t5.get m 30 [.ptr bv 0, .int .i64 k, hV log gen st base] h = some (.tup [.nilp, .int .i64 1], h.add (.cells [.int .i64 log, .int .u32 gen, .int .u32 st, .int .i64 base])) := by
  rw [t5_r30 (by omega)]
  obtain ⟨H, hH⟩ : ∃ H, h.add (.cells [.int .i64 log, .int .u32 gen, .int .u32 st, .int .i64 base]) = H := ⟨_, rfl⟩
  have bx : ∀ K, boxC 4 (hV log gen st base) h K = K (.ptr h.next 0) H := fun K => by rw [← hH]; exact boxC_e rfl
  have kH : H.blk h.next = some (.cells [.int .i64 log, .int .u32 gen, .int .u32 st, .int .i64 base]) := by rw [← hH]; exact blk_add_same _
  have hv1 : ViewQ H bv bd bl w f n steps d := hH ▸ hv.stays ((Stays.refl (fun _ => False) h).add hf _) (fun h => h) (fun h => h) (fun h => h) (fun _ _ h => h)
  have ef := t5_first hv1 (m := m - 1) (by omega) hn hn2 hk
  have l4 : ∀ K, ldC true 4 (.ptr h.next 0) H K = K (hV log gen st base) := fun K => ld_all kH rfl K
  have eh : run t5.get (m - 1) 87 [hV log gen st base] H = some (.tup [.str [], .int .i64 1], H) := by rw [t5_r87 (by omega)]; exact p_henc_err hh h2 h3
  have g0 : icmp .ne (0 : Int) 0 = false := rfl
  have g1 : icmp .ne (1 : Int) 0 = true := rfl
  rw [hH]
  simp only [s30, bx, clC_of ef, exC_0, exC_1, cmC_int, g0, cnd_f, l4, clC_of eh, g1, cnd_t]
theorem strs_eq (xs : List (List UInt8)) : ∃ u, strs xs = .sl u 1 (xs.map Val.str) := ⟨_, rfl⟩
theorem t5_create (hv : ViewQ h bv bd bl w f n steps d) (hf : Fit h) (hm : 60 ≤ m) (hn : 2 ≤ n) (hn2 : n < 100000) {k log gen st base : Nat} (hk : k < (n - 2) / 16) (hh : mayH log base = true) (h2 : gen < 4294967296) (h3 : st < 4294967296) (hw : d.waits.length < 80000) (hst2 : steps < 800000000) :
    ∃ sp w' h', run t5.get m 30 [.ptr bv 0, .int .i64 k, hV log gen st base] h = some (.tup [.ptr sp 0, .int .i64 0], h') ∧ Fit h' ∧ h.next ≤ sp ∧ h'.blk sp = some (.cells (sgC bv .nl ⟨k, log, gen, st, base, [], 1, false⟩)) ∧ ViewQ h' bv bd bl w' f n (steps + 1) (Dk.writes st 1 (f + (2 + 16 * k) + 0) (pieces (encH log gen st base)) d) ∧ Stays (ownV bv bd w) h h' ∧ (∀ b, b < h.next → ownV bv bd w' b → ownV bv bd w b) := by
  obtain ⟨H, hH⟩ : ∃ H, h.add (.cells [.int .i64 log, .int .u32 gen, .int .u32 st, .int .i64 base]) = H := ⟨_, rfl⟩
  have bx : ∀ K, boxC 4 (hV log gen st base) h K = K (.ptr h.next 0) H := fun K => by rw [← hH]; exact boxC_e rfl
  have kH : H.blk h.next = some (.cells [.int .i64 log, .int .u32 gen, .int .u32 st, .int .i64 base]) := by rw [← hH]; exact blk_add_same _
  have s1 : Stays (fun _ => False) h H := hH ▸ (Stays.refl _ h).add hf _
  have hf1 : Fit H := hH ▸ hf.add _
  have hv1 : ViewQ H bv bd bl w f n steps d := hv.stays s1 (fun h => h) (fun h => h) (fun h => h) (fun _ _ h => h)
  have ef := t5_first hv1 (m := m - 1) (by omega) hn hn2 hk
  have l4 : ∀ K, ldC true 4 (.ptr h.next 0) H K = K (hV log gen st base) := fun K => ld_all kH rfl K
  have eh : run t5.get (m - 1) 87 [hV log gen st base] H = some (.tup [.str (encH log gen st base), .int .i64 0], H) := by rw [t5_r87 (by omega)]; exact p_henc hh h2 h3
  let sg : Sg := ⟨k, log, gen, st, base, [], 1, false⟩
  obtain ⟨H2, hH2⟩ : ∃ H2, H.add (.cells (sgC bv .nl sg)) = H2 := ⟨_, rfl⟩
  have ag : ∀ K, aggC [.nilp, .int .i64 0, .int .i64 0, .int .u32 0, .int .u32 0, .int .i64 0, .sl .nl 2 [], .int .i64 0, .bool false] [(0, 1, .ptr bv 0), (1, 1, .int .i64 k), (2, 4, hV log gen st base), (7, 1, .int .i64 1)] K = K (.agg (sgC bv .nl sg)) := fun K => rfl
  have bx2 : ∀ K, boxC 9 (.agg (sgC bv .nl sg)) H K = K (.ptr H.next 0) H2 := fun K => by rw [← hH2]; exact boxC_e rfl
  have k2 : H2.blk H.next = some (.cells (sgC bv .nl sg)) := by rw [← hH2]; exact blk_add_same _
  have s2 : Stays (fun _ => False) H H2 := hH2 ▸ (Stays.refl _ H).add hf1 _
  have hf2 : Fit H2 := hH2 ▸ hf1.add _
  have hv2 : ViewQ H2 bv bd bl w f n steps d := hv1.stays s2 (fun h => h) (fun h => h) (fun h => h) (fun _ _ h => h)
  have ep : run t5.get (m - 1) 84 [.str (encH log gen st base)] H2 = some (strs (pieces (encH log gen st base)), H2) := by rw [t5_r84 (by omega)]; exact p_pcs (by rw [encH_len]; decide)
  obtain ⟨u, hu⟩ := strs_eq (pieces (encH log gen st base))
  have hpl := pieces_encH log gen st base
  obtain ⟨w', h', ew, hf3, hv3, s3, o3⟩ := t5_swrite hv2 hf2 (u := u) (ws := .nl) (sp := H.next) (a := 0) (ct := 1) (sg := sg) (ps := pieces (encH log gen st base)) (m := m - 1) (by omega) k2 h3 (by omega) (by omega) (pieces_len52 _) hn hn2 hk (by omega) (by omega) (by omega)
  have g0 : icmp .ne (0 : Int) 0 = false := rfl
  refine ⟨H.next, w', h', ?_, hf3, s1.nx, s3.keep _ _ k2 (hv2.other k2 (by simp [sgC])), ?_, ⟨fun b x e n => s3.keep b x (s2.keep b x (s1.keep b x e (fun h => h)) (fun h => h)) n, Nat.le_trans s1.nx (Nat.le_trans s2.nx s3.nx)⟩, fun b hb ho => o3 b (by have := s1.nx; have := s2.nx; omega) ho⟩
  · rw [t5_r30 (by omega)]
    simp only [s30, bx, clC_of ef, exC_0, exC_1, cmC_int, g0, cnd_f, l4, clC_of eh, ag, bx2, clC_of ep, hu]
    refine (clC_of ew).trans ?_
    simp only [cmC_int, g0, cnd_f]
  · rw [hpl] at hv3; exact hv3
 end
end Go.AM.T
set_option maxRecDepth 100000
set_option linter.unusedVariables false
set_option linter.unusedSimpArgs false
namespace Go.AM.T
open Go Go.AM
theorem app_own {h : Heap} {w : Own} {z : Nat} {g : Bool} {l : List Val} {x : Val} (hf : Fit h) (hg : Gr h w l.length) (hl : l.length + 1 ≤ 2147483648) :
    ∃ t h', (∀ K, appC g z (.sl w z l) (.sl .ex z [x]) h K = K (.sl (.tok t) z (l ++ [x])) h') ∧ Fit h' ∧ Gr h' (.tok t) (l.length + 1) ∧ Stays (fun b => w = .tok b) h h' ∧ (w = .tok t ∨ h.next ≤ t) := by
  obtain ⟨w', h', ea, hf', hg', kp, t, rfl⟩ := app_one' (u := .ex) (z := z) (g := g) (x := x) hf hg hl
  refine ⟨t, h', ea, hf', hg', ?_⟩
  have hs : source g z (.sl .ex z [x]) h = some [x] := by simp [source]
  have hc : decide (l.length + [x].length ≤ room) = true := decide_eq_true hl
  have ex := ea (fun v h => some (v, h))
  cases w with
  | ro => exact hg.elim
  | tok t0 =>
    have ht : h.blk t0 = some (.tok l.length) := hg
    simp only [appC, hs, hc, ht, Nat.beq_refl, Bool.and_self, cond_true, List.length_nil, Nat.add_zero, Option.some.injEq, Prod.mk.injEq, Val.sl.injEq, Own.tok.injEq] at ex
    obtain ⟨⟨rfl, -⟩, hh⟩ := ex
    exact ⟨hh ▸ (Stays.refl (fun b => Own.tok t0 = Own.tok b) h).put (c := t0) (.inl rfl) hf _, .inl rfl⟩
  | nl =>
    simp only [appC, hs, hc, Nat.beq_refl, Bool.and_self, cond_true, List.length_nil, Nat.add_zero, Option.some.injEq, Prod.mk.injEq, Val.sl.injEq, Own.tok.injEq] at ex
    obtain ⟨⟨rfl, -⟩, hh⟩ := ex
    exact ⟨hh ▸ (Stays.refl _ h).add hf _, .inr (Nat.le_refl _)⟩
  | ex =>
    simp only [appC, hs, hc, Nat.beq_refl, Bool.and_self, cond_true, List.length_nil, Nat.add_zero, Option.some.injEq, Prod.mk.injEq, Val.sl.injEq, Own.tok.injEq] at ex
    obtain ⟨⟨rfl, -⟩, hh⟩ := ex
    exact ⟨hh ▸ (Stays.refl _ h).add hf _, .inr (Nat.le_refl _)⟩
structure K3 (bv bd sp : Nat) (h h' : Heap) : Prop where
  keep : ∀ b c, h.blk b = some (.cells c) → b ≠ bv → b ≠ bd → b ≠ sp → h'.blk b = some (.cells c)
  nx : h.next ≤ h'.next
theorem K3.refl (bv bd sp : Nat) (h : Heap) : K3 bv bd sp h h := ⟨fun _ _ e _ _ _ => e, Nat.le_refl _⟩
theorem K3.trans {bv bd sp : Nat} {a b c : Heap} (x : K3 bv bd sp a b) (y : K3 bv bd sp b c) : K3 bv bd sp a c :=
  ⟨fun i l e h1 h2 h3 => y.keep i l (x.keep i l e h1 h2 h3) h1 h2 h3, Nat.le_trans x.nx y.nx⟩
def ownG (bv bd sp : Nat) (w ws : Own) (b : Nat) : Prop := ownV bv bd w b ∨ b = sp ∨ ws = .tok b
structure SegSt (h : Heap) (bv bd bl : Nat) (w : Own) (f n steps : Nat) (d : Dk) (sp : Nat) (ws : Own) (sg : Sg) : Prop where
  v : ViewQ h bv bd bl w f n steps d
  k : h.blk sp = some (.cells (sgC bv ws sg))
  gr : Gr h ws sg.l.length
  ne : ∀ t, ws = .tok t → w ≠ .tok t
  fit : Fit h
def Sg.made (sg : Sg) (x : Sec) : Made := ⟨sg.log, sg.gen, sg.st, sg.base, sg.l, sg.e, x⟩
def Sg.of (sg : Sg) (m : Made) : Sg := { sg with l := m.l, e := m.e }
theorem appM_err {d : Made} {f : Fr} (h : (appM d f).2.2 ≠ 0) : (appM d f).1 = d ∧ (appM d f).2.1 = 0 := by
  unfold appM at h ⊢
  by_cases c : wrongM (place16 d.e) f.1 f.2 = 0
  · simp only [c, ne_eq, not_true_eq_false, if_false] at h ⊢
    split at h
    · rename_i c2; rw [if_pos c2]; exact ⟨rfl, rfl⟩
    · exact absurd rfl h
  · simp only [ne_eq, c, not_false_eq_true, if_true]
    exact ⟨trivial, trivial⟩
section
variable {m : Nat} {h : Heap} {bv bd bl f n steps sp : Nat} {w ws : Own} {d : Dk} {sg : Sg}
theorem SegSt.k3 (hs : SegSt h bv bd bl w f n steps d sp ws sg) {h' : Heap} (s : Stays (ownG bv bd sp w ws) h h') : K3 bv bd sp h h' := by
  refine ⟨fun b c e h1 h2 h3 => s.keep b _ e ?_, s.nx⟩
  rintro (ho | ho | ho)
  · rcases ho with ho | ho | ⟨t, ht, ho⟩
    · exact h1 ho
    · exact h2 ho
    · exact hs.v.dk.tokne e t ht ho
  · exact h3 ho
  · have hg := hs.gr
    rw [ho] at hg
    have : h.blk b = some (.tok sg.l.length) := hg
    rw [e] at this; cases this
theorem SegSt.add (hs : SegSt h bv bd bl w f n steps d sp ws sg) (c : List Val) : SegSt (h.add (.cells c)) bv bd bl w f n steps d sp ws sg := by
  have s : Stays (fun _ => False) h (h.add (.cells c)) := (Stays.refl _ h).add hs.fit _
  refine ⟨hs.v.stays s (fun h => h) (fun h => h) (fun h => h) (fun _ _ h => h), s.keep _ _ hs.k (fun h => h), ?_, hs.ne, hs.fit.add _⟩
  have hg := hs.gr
  cases ws with
  | tok t => exact s.keep _ _ hg (fun h => h)
  | nl => exact hg
  | ex => trivial
  | ro => exact hg.elim
theorem SegSt.ne_bv (hs : SegSt h bv bd bl w f n steps d sp ws sg) : sp ≠ bv ∧ sp ≠ bd := by
  have ho := hs.v.other hs.k (by simp [sgC])
  exact ⟨fun e => ho (.inl e), fun e => ho (.inr (.inl e))⟩
theorem t5_append_shut (hs : SegSt h bv bd bl w f n steps d sp ws sg) (hsh : sg.shut = true) (hm : 3 ≤ m) {fr : Fr} :
    run t5.get m 23 [.ptr sp 0, frV fr] h = some (.tup [.int .i64 0, .int .i64 39], h.add (.cells [.int .i64 fr.1, .str fr.2])) := by
  rw [t5_r23 (by omega)]
  have bx : ∀ K, boxC 2 (frV fr) h K = K (.ptr h.next 0) (h.add (.cells [.int .i64 fr.1, .str fr.2])) := fun K => boxC_e rfl
  have c : ∀ K, ceC .p false (.ptr sp 0) .nilp K = K (.bool false) := fun K => rfl
  have hs1 := hs.add [.int .i64 fr.1, .str fr.2]
  have l8 : ∀ K, ldC false 1 (.ptr sp 8) (h.add (.cells [.int .i64 fr.1, .str fr.2])) K = K (.bool true) := fun K => by rw [ldC_p hs1.k (by simp [sgC])]; simp [sgC, hsh]
  simp only [s23, bx, c, cnd_f, nilC_p, faC_p, Nat.zero_add, l8, cnd_t]
theorem t5_append (hs : SegSt h bv bd bl w f n steps d sp ws sg) (hsh : sg.shut = false) (hm : 200 ≤ m) {fr : Fr} (hp : fr.2.length ≤ 1000) {b0 : Nat} (hb0 : f + (2 + 16 * sg.num) = b0) {x : Sec} (hx : d.sec b0 = x) (hok : (sg.made x).Ok) (hn : 2 ≤ n) (hn2 : n < 100000) (hk : sg.num < (n - 2) / 16) (hw : d.waits.length < 80000) (hst2 : steps < 800000000) :
    ∃ ws' w' h' d' steps', run t5.get m 23 [.ptr sp 0, frV fr] h = some (.tup [.int .i64 (appM (sg.made x) fr).2.1, .int .i64 (appM (sg.made x) fr).2.2], h') ∧ SegSt h' bv bd bl w' f n steps' d' sp ws' (sg.of (appM (sg.made x) fr).1) ∧ K3 bv bd sp h h' ∧ d'.sec b0 = (appM (sg.made x) fr).1.x ∧ d'.lies = d.lies ∧ d'.waits.length ≤ d.waits.length + 16 ∧ steps' ≤ steps + 16 ∧ (∀ b1, b1 + 16 ≤ b0 ∨ b0 + 16 ≤ b1 → d'.sec b1 = d.sec b1) := by
  obtain ⟨H, hH⟩ : ∃ H, h.add (.cells [.int .i64 fr.1, .str fr.2]) = H := ⟨_, rfl⟩
  have bx : ∀ K, boxC 2 (frV fr) h K = K (.ptr h.next 0) H := fun K => by rw [← hH]; exact boxC_e rfl
  have kH : H.blk h.next = some (.cells [.int .i64 fr.1, .str fr.2]) := by rw [← hH]; exact blk_add_same _
  have hs1 : SegSt H bv bd bl w f n steps d sp ws sg := hH ▸ hs.add _
  have k1 : K3 bv bd sp h H := by
    rw [← hH]; exact ⟨fun b c e _ _ _ => by rw [blk_add_ne _ (by have := hs.fit.lt e; omega)]; exact e, Nat.le_succ _⟩
  have c : ∀ K, ceC .p false (.ptr sp 0) .nilp K = K (.bool false) := fun K => rfl
  have l8 : ∀ K, ldC false 1 (.ptr sp 8) H K = K (.bool false) := fun K => by rw [ldC_p hs1.k (by simp [sgC])]; simp [sgC, hsh]
  have l7 : ∀ K, ldC false 1 (.ptr sp 7) H K = K (.int .i64 sg.e) := fun K => by rw [ldC_p hs1.k (by simp [sgC])]; rfl
  have l4 : ∀ K, ldC false 1 (.ptr sp 4) H K = K (.int .u32 sg.st) := fun K => by rw [ldC_p hs1.k (by simp [sgC])]; rfl
  have l6 : ∀ K, ldC false 1 (.ptr sp 6) H K = K (.sl ws 2 (sg.l.map frV)) := fun K => by rw [ldC_p hs1.k (by simp [sgC])]; rfl
  have he16 : sg.e ≤ 16 := hok.e16
  have hst : sg.st < 4294967296 := hok.st
  have hlen : sg.l.length < 20 := hok.len
  have mn : ∀ K, mnC (.int .i64 sg.e) (.int .i64 15) K = K (.int .i64 (place16 sg.e : Nat)) := fun K => by
    rw [mnC_i]
    have : min (sg.e : Int) 15 = (place16 sg.e : Nat) := by unfold place16; split <;> omega
    rw [this]
  have lf : ∀ K, ldC true 2 (.ptr h.next 0) H K = K (frV fr) := fun K => ld_all kH rfl K
  by_cases c1 : wrongM (place16 sg.e : Nat) fr.1 fr.2 = 0
  case neg =>
    have hA : appM (sg.made x) fr = (sg.made x, 0, wrongM (place16 sg.e : Nat) fr.1 fr.2) := by unfold appM; simp only [Sg.made, ne_eq, c1, not_false_eq_true, if_true]
    have ee : run t5.get (m - 1) 83 [.int .u32 sg.st, .int .i64 (place16 sg.e : Nat), frV fr] H = some (.tup [.str [], .int .i64 (wrongM (place16 sg.e : Nat) fr.1 fr.2 : Nat)], H) := by rw [t5_r83 (by omega)]; exact p_enc_err hst c1
    rw [hA]
    generalize wrongM (place16 sg.e : Nat) fr.1 fr.2 = wv at *
    have g1 : icmp .ne (wv : Int) 0 = true := by rw [icmp_ne]; exact decide_eq_true (by omega)
    refine ⟨ws, w, H, d, steps, ?_, hs1, k1, hx, rfl, by omega, by omega, fun _ _ => rfl⟩
    rw [t5_r23 (by omega)]
    simp only [s23, bx, c, cnd_f, nilC_p, faC_p, Nat.zero_add, Nat.add_zero, Nat.reduceAdd, l8, l7, l4, mn, lf, clC_of ee, exC_0, exC_1, cmC_int, g1, cnd_t]
    rfl
  case pos =>
    have pl := place_lt he16
    have hno : ¬ (fr.1 < 1 ∨ 255 < fr.1 ∨ okPlace (place16 sg.e : Nat) = false) := fun c => by
      have : wrongM (place16 sg.e : Nat) fr.1 fr.2 = 1 := if_pos c
      omega
    have hfp : ¬ 773 < fr.2.length := fun c => by
      have : wrongM (place16 sg.e : Nat) fr.1 fr.2 = 2 := by unfold wrongM; rw [if_neg hno, if_pos c]
      omega
    obtain ⟨k, p⟩ := fr
    simp only at *
    obtain ⟨k, rfl⟩ := Int.eq_ofNat_of_zero_le (show 0 ≤ k by omega)
    have hk256 : k < 256 := by omega
    obtain ⟨ps, hps⟩ : ∃ ps, pieces (encF sg.st (place16 sg.e) (UInt8.ofNat k :: p)) = ps := ⟨_, rfl⟩
    have hp52 : ∀ q ∈ ps, q.length = 52 := fun q hq => pieces_len52 _ q (hps ▸ hq)
    have hpl : ps.length < 100 := by rw [← hps, pieces, pcs_len, encF_len]; unfold many; simp; omega
    have okp : okPlace (place16 sg.e : Nat) = true := place_ok hok.e1 he16
    have ee : run t5.get (m - 1) 83 [.int .u32 sg.st, .int .i64 (place16 sg.e : Nat), frV ((k : Int), p)] H = some (.tup [.str (encF sg.st (place16 sg.e) (UInt8.ofNat k :: p)), .int .i64 0], H) := by rw [t5_r83 (by omega)]; exact p_enc (p := p) hst (by omega) (by omega) okp (by omega)
    obtain ⟨u, hu⟩ := strs_eq ps
    have pc : run t5.get (m - 1) 84 [.str (encF sg.st (place16 sg.e) (UInt8.ofNat k :: p))] H = some (.sl u 1 (ps.map Val.str), H) := by rw [t5_r84 (by omega), ← hu, ← hps]; exact p_pcs (by rw [encF_len]; simp; omega)
    have g0 : icmp .ne (0 : Int) 0 = false := rfl
    have a1 : IntKind.i64.wrap (16 - (sg.e : Int)) = ((16 - sg.e : Nat) : Int) := by rw [wrap_i64 (by omega) (by omega)]; omega
    by_cases c2 : 16 < sg.e + ps.length
    · have g2 : icmp .gt (ps.length : Int) ((16 - sg.e : Nat) : Int) = true := decide_eq_true (by omega)
      have hA : appM (sg.made x) ((k : Int), p) = (sg.made x, 0, 5) := by
        unfold appM
        simp only [Sg.made, c1, ne_eq, not_true_eq_false, if_false, Int.toNat_natCast, hps, c2, if_true]
      rw [hA]
      refine ⟨ws, w, H, d, steps, ?_, hs1, k1, hx, rfl, by omega, by omega, fun _ _ => rfl⟩
      rw [t5_r23 (by omega)]
      simp only [s23, bx, c, cnd_f, nilC_p, faC_p, Nat.zero_add, Nat.add_zero, Nat.reduceAdd, l8, l7, l4, mn, lf, clC_of ee, exC_0, exC_1, cmC_int, g0, clC_of pc, lenlC_s, List.length_map, biC_sub, a1, g2, cnd_t]
      rfl
    · have g2 : icmp .gt (ps.length : Int) ((16 - sg.e : Nat) : Int) = false := decide_eq_false (by omega)
      have hA : appM (sg.made x) ((k : Int), p) = (⟨sg.log, sg.gen, sg.st, sg.base, sg.l ++ [((k : Int), p)], sg.e + ps.length, putM sg.st (sg.l.length + 2) sg.e ps x⟩, sg.e, 0) := by
        unfold appM
        simp only [Sg.made, c1, ne_eq, not_true_eq_false, if_false, Int.toNat_natCast, hps, c2]
      rw [hA]
      obtain ⟨w1, H1, ew, hf1, hv1, st1, o1⟩ := t5_swrite hs1.v hs1.fit (m := m - 1) (u := u) (ws := ws) (sp := sp) (a := sg.e) (ct := sg.l.length + 2) (sg := sg) (ps := ps) (by omega) hs1.k hst (by omega) (by omega) hp52 hn hn2 hk (by omega) (by omega) (by omega)
      have q0 : H1.blk sp = some (.cells (sgC bv ws sg)) := st1.keep _ _ hs1.k (hs1.v.other hs1.k (by simp [sgC]))
      have nfr : ¬ ownV bv bd w h.next := by
        have h0 := hs.fit.lt hs.v.kv
        have h2 := hs.fit.lt hs.v.dk.k
        rintro (ho | ho | ⟨t, ht, ho⟩)
        · omega
        · omega
        · subst ho
          exact hs1.v.dk.tokne kH _ ht rfl
      have q1 : H1.blk h.next = some (.cells [.int .i64 (k : Int), .str p]) := st1.keep _ _ kH nfr
      have gr1 : Gr H1 ws (sg.l.map frV).length := by
        have hg := hs1.gr
        rw [List.length_map]
        cases ws with
        | tok t =>
          refine st1.keep _ _ hg ?_
          have hgt : H.blk t = some (.tok sg.l.length) := hg
          rintro (ho | ho | ⟨t', ht, ho⟩)
          · subst ho; rw [hs1.v.kv] at hgt; cases hgt
          · subst ho; rw [hs1.v.dk.k] at hgt; cases hgt
          · subst ho; exact hs1.ne _ rfl ht
        | nl => exact hg
        | ex => trivial
        | ro => exact hg.elim
      have ne1 : ∀ t, ws = .tok t → w1 ≠ .tok t := by
        intro t ht e
        subst ht
        have hgt : H.blk t = some (.tok sg.l.length) := hs1.gr
        rcases o1 t (hs1.fit.lt hgt) (.inr (.inr ⟨t, e, rfl⟩)) with ho | ho | ⟨t', ht', ho⟩
        · subst ho; rw [hs1.v.kv] at hgt; cases hgt
        · subst ho; rw [hs1.v.dk.k] at hgt; cases hgt
        · subst ho; exact hs1.ne _ rfl ht'
      obtain ⟨t, H2, ea, hf2, gr2, st2, ht⟩ := app_own (z := 2) (g := true) (x := frV ((k : Int), p)) hf1 gr1 (by simp; omega)
      have notc : ∀ b l, H1.blk b = some (.cells l) → ¬ ws = .tok b := by
        intro b l hb e
        subst e
        have : H1.blk b = some (.tok (sg.l.map frV).length) := gr1
        rw [hb] at this; cases this
      have r0 := st2.keep _ _ q0 (notc _ _ q0)
      obtain ⟨H3, hH3⟩ : ∃ H3, H2.put sp (.cells (sgC bv (.tok t) { sg with l := sg.l ++ [((k : Int), p)] })) = H3 := ⟨_, rfl⟩
      have r3 : H3.blk sp = some (.cells (sgC bv (.tok t) { sg with l := sg.l ++ [((k : Int), p)] })) := by rw [← hH3]; exact blk_put_same _ _
      obtain ⟨H4, hH4⟩ : ∃ H4, H3.put sp (.cells (sgC bv (.tok t) { sg with l := sg.l ++ [((k : Int), p)], e := sg.e + ps.length })) = H4 := ⟨_, rfl⟩
      have r4 : H4.blk sp = some (.cells (sgC bv (.tok t) { sg with l := sg.l ++ [((k : Int), p)], e := sg.e + ps.length })) := by rw [← hH4]; exact blk_put_same _ _
      have ml : sg.l.map frV ++ [frV ((k : Int), p)] = (sg.l ++ [((k : Int), p)]).map frV := by simp
      have s6 : ∀ K, stC 1 (.ptr sp 6) (.sl (.tok t) 2 ((sg.l ++ [((k : Int), p)]).map frV)) H2 K = K H3 := fun K => by rw [← hH3]; exact st_one r0 rfl (by simp [sgC]) K
      have s7 : ∀ K, stC 1 (.ptr sp 7) (.int .i64 (sg.e + ps.length : Nat)) H3 K = K H4 := fun K => by rw [← hH4]; exact st_one r3 rfl (by simp [sgC]) K
      have hf3 : Fit H3 := hH3 ▸ hf2.put _ (hf2.lt r0)
      have hf4 : Fit H4 := hH4 ▸ hf3.put _ (hf3.lt r3)
      have nt : t ≠ sp := by
        intro e; subst e
        have : H2.blk t = some (.tok ((sg.l.map frV).length + 1)) := gr2
        rw [r0] at this; cases this
      have st34 : Stays (fun b => b = sp) H2 H4 := by
        have a : Stays (fun b => b = sp) H2 H3 := by rw [← hH3]; exact (Stays.refl (fun b => b = sp) H2).put (c := sp) (.inl rfl) hf2 _
        rw [← hH4]; exact a.put (c := sp) (.inl rfl) hf2 _
      have nbv := hs.ne_bv
      have w1t : w1 ≠ .tok t := by
        intro e
        rcases ht with ht | ht
        · exact ne1 t ht e
        · subst e
          have : H1.blk t = some (.tok _) := hv1.dk.gr
          have := hf1.lt this
          omega
      have hv2 : ViewQ H2 bv bd bl w1 f n (steps + ps.length) (Dk.writes sg.st (sg.l.length + 2) (f + (2 + 16 * sg.num) + sg.e) ps d) := hv1.stays st2 (notc _ _ hv1.kv) (notc _ _ hv1.dk.k) (notc _ _ hv1.dk.kl) (fun t' h1 h2 => ne1 t' h2 h1)
      have nbl : bl ≠ sp := by
        intro e
        have a := hs.v.dk.kl
        rw [e, hs.k] at a
        have a2 := congrArg List.length (Blk.cells.inj (Option.some.inj a))
        rw [flat_len _ hs.v.dk.l64] at a2
        have := hs.v.dk.l1
        simp [sgC] at a2
        omega
      have hv4 := hv2.stays st34 (fun e => nbv.1 e.symm) (fun e => nbv.2 e.symm) nbl (fun t' h1 h2 => by
        subst h2
        exact hv2.dk.tokne r0 _ h1 rfl)
      refine ⟨.tok t, w1, H4, _, _, ?_, ⟨hv4, r4, ?_, fun t' h1 => by cases h1; exact w1t, hf4⟩, ?_, ?_, writes_lies _ _ _ _ _, ?_, ?_, ?_⟩
      · rw [t5_r23 (by omega)]
        have bs : ∀ K, bslC 2 [frV ((k : Int), p)] K = K (.sl .ex 2 [frV ((k : Int), p)]) := fun K => rfl
        have l6' : ∀ K, ldC false 1 (.ptr sp 6) H1 K = K (.sl ws 2 (sg.l.map frV)) := fun K => by rw [ldC_p q0 (by simp [sgC])]; rfl
        have lf' : ∀ K, ldC true 2 (.ptr h.next 0) H1 K = K (frV ((k : Int), p)) := fun K => ld_all q1 rfl K
        have l7' : ∀ K, ldC false 1 (.ptr sp 7) H3 K = K (.int .i64 sg.e) := fun K => by rw [ldC_p r3 (by simp [sgC])]; rfl
        have a2 : IntKind.i64.wrap ((sg.l.length : Int) + 2) = ((sg.l.length + 2 : Nat) : Int) := by rw [wrap_i64 (by omega) (by omega)]; rfl
        have a3 : IntKind.i64.wrap ((sg.e : Int) + (ps.length : Int)) = ((sg.e + ps.length : Nat) : Int) := by rw [wrap_i64 (by omega) (by omega)]; rfl
        simp only [s23, bx, c, cnd_f, nilC_p, faC_p, Nat.zero_add, Nat.add_zero, Nat.reduceAdd, l8, l7, l4, mn, lf, clC_of ee, exC_0, exC_1, cmC_int, g0, clC_of pc, lenlC_s, List.length_map, biC_sub, a1, g2, l6, biC_add, a2, clC_of ew, l6', lf', bs, ea, ml, s6, l7', a3, s7]
        rfl
      · have : H2.blk t = some (.tok ((sg.l.map frV).length + 1)) := gr2
        have := st34.keep _ _ this nt
        show H4.blk t = _
        rw [this]; simp [Sg.of]
      · refine k1.trans ((hs1.k3 ⟨fun b y e no => st1.keep b y e (fun ho => no (.inl ho)), st1.nx⟩).trans ⟨fun b l e h1 h2 h3 => ?_, Nat.le_trans st2.nx st34.nx⟩)
        exact st34.keep _ _ (st2.keep _ _ e (notc _ _ e)) h3
      · rw [hb0, sec_writes _ _ _ _ _ _ (by omega), hx]
      · rw [writes_waits]; omega
      · omega
      · intro b1 hb1
        rw [hb0]
        exact sec_writes_other _ _ _ _ _ _ (by omega)
 end
end Go.AM.T
set_option maxRecDepth 100000
set_option linter.unusedVariables false
set_option linter.unusedSimpArgs false
namespace Go.AM.T
open Go Go.AM
structure Up (h h' : Heap) : Prop where
  keep : ∀ b x, h.blk b = some x → h'.blk b = some x
  nx : h.next ≤ h'.next
  fit : Fit h'
theorem Up.refl {h : Heap} (hf : Fit h) : Up h h := ⟨fun _ _ e => e, Nat.le_refl _, hf⟩
theorem Up.trans {a b c : Heap} (x : Up a b) (y : Up b c) : Up a c := ⟨fun i v e => y.keep i v (x.keep i v e), Nat.le_trans x.nx y.nx, y.fit⟩
theorem Up.add {h h' : Heap} (u : Up h h') (x : Blk) : Up h (h'.add x) :=
  ⟨fun b v e => by have := u.keep b v e; rw [blk_add_ne _ (by have := u.fit.lt this; omega)]; exact this, Nat.le_trans u.nx (Nat.le_succ _), u.fit.add _⟩
theorem Up.put {h h' : Heap} (u : Up h h') (hf : Fit h) {c : Nat} (h1 : h.next ≤ c) (h2 : c < h'.next) (x : Blk) : Up h (h'.put c x) :=
  ⟨fun b v e => by have := hf.lt e; rw [blk_put_ne _ (by omega)]; exact u.keep b v e, u.nx, u.fit.put _ h2⟩
theorem Up.stays {h h' : Heap} (u : Up h h') : Stays (fun _ => False) h h' := ⟨fun b x e _ => u.keep b x e, u.nx⟩
theorem Up.k3 {h h' : Heap} (u : Up h h') (bv bd sp : Nat) : K3 bv bd sp h h' := ⟨fun b c e _ _ _ => u.keep b _ e, u.nx⟩
section
variable {m : Nat} {h : Heap} {bv bd bl f n steps sp : Nat} {w ws : Own} {d : Dk} {sg : Sg}
theorem ViewQ.up (hv : ViewQ h bv bd bl w f n steps d) {h' : Heap} (u : Up h h') : ViewQ h' bv bd bl w f n steps d := hv.stays u.stays (fun h => h) (fun h => h) (fun h => h) (fun _ _ h => h)
theorem Gr.up {h h' : Heap} (u : Up h h') {w : Own} {k : Nat} (hg : Gr h w k) : Gr h' w k := by
  cases w with
  | tok t => exact u.keep _ _ hg
  | nl => exact hg
  | ex => trivial
  | ro => exact hg.elim
theorem SegSt.up (hs : SegSt h bv bd bl w f n steps d sp ws sg) {h' : Heap} (u : Up h h') : SegSt h' bv bd bl w f n steps d sp ws sg :=
  ⟨hs.v.up u, u.keep _ _ hs.k, Gr.up u hs.gr, hs.ne, u.fit⟩
theorem t5_header (hs : SegSt h bv bd bl w f n steps d sp ws sg) (hm : 2 ≤ m) : ∃ h', run t5.get m 24 [.ptr sp 0] h = some (hV sg.log sg.gen sg.st sg.base, h') ∧ Up h h' := by
  let z4 : List Val := [.int .i64 0, .int .u32 0, .int .u32 0, .int .i64 0]
  let c4 : List Val := [.int .i64 sg.log, .int .u32 sg.gen, .int .u32 sg.st, .int .i64 sg.base]
  have u1 : Up h (h.add (.cells z4)) := (Up.refl hs.fit).add _
  have hs1 := hs.up u1
  have kz : (h.add (.cells z4)).blk h.next = some (.cells z4) := blk_add_same _
  refine ⟨(h.add (.cells z4)).put h.next (.cells c4), ?_, u1.put hs.fit (Nat.le_refl _) (Nat.lt_succ_self _) _⟩
  rw [t5_r24 (by omega)]
  have c : ∀ K, ceC .p false (.ptr sp 0) .nilp K = K (.bool false) := fun K => rfl
  have l2 : ∀ K, ldC true 4 (.ptr sp 2) (h.add (.cells z4)) K = K (.agg c4) := fun K => by rw [ldC_p hs1.k (by simp [sgC])]; rfl
  have st : ∀ K, stC 4 (.ptr h.next 0) (.agg c4) (h.add (.cells z4)) K = K ((h.add (.cells z4)).put h.next (.cells c4)) := fun K => st_all (n := 4) (l := z4) (x := c4) kz rfl rfl K
  have ld : ∀ K, ldC true 4 (.ptr h.next 0) ((h.add (.cells z4)).put h.next (.cells c4)) K = K (.agg c4) := fun K => ld_all (n := 4) (blk_put_same _ _) rfl K
  have hz : [Val.int .i64 0, .int .u32 0, .int .u32 0, .int .i64 0] = z4 := rfl
  simp only [s24, hz, allocC_e, c, cnd_f, nilC_p, faC_p, Nat.zero_add, l2, st, ld]
  rfl
theorem t5_end (hs : SegSt h bv bd bl w f n steps d sp ws sg) (hm : 2 ≤ m) : run t5.get m 27 [.ptr sp 0] h = some (.int .i64 sg.e, h) := by
  rw [t5_r27 (by omega)]
  have c : ∀ K, ceC .p false (.ptr sp 0) .nilp K = K (.bool false) := fun K => rfl
  have l2 : ∀ K, ldC false 1 (.ptr sp 7) h K = K (.int .i64 sg.e) := fun K => by rw [ldC_p hs.k (by simp [sgC])]; rfl
  simp only [s27, c, cnd_f, nilC_p, faC_p, Nat.zero_add, l2]
theorem t5_len (hs : SegSt h bv bd bl w f n steps d sp ws sg) (hm : 2 ≤ m) : run t5.get m 28 [.ptr sp 0] h = some (.int .i64 sg.l.length, h) := by
  rw [t5_r28 (by omega)]
  have c : ∀ K, ceC .p false (.ptr sp 0) .nilp K = K (.bool false) := fun K => rfl
  have l2 : ∀ K, ldC false 1 (.ptr sp 6) h K = K (.sl ws 2 (sg.l.map frV)) := fun K => by rw [ldC_p hs.k (by simp [sgC])]; rfl
  simp only [s28, c, cnd_f, nilC_p, faC_p, Nat.zero_add, l2, lenlC_s, List.length_map]
theorem t5_number (hs : SegSt h bv bd bl w f n steps d sp ws sg) (hm : 2 ≤ m) : run t5.get m 34 [.ptr sp 0] h = some (.int .i64 sg.num, h) := by
  rw [t5_r34 (by omega)]
  have c : ∀ K, ceC .p false (.ptr sp 0) .nilp K = K (.bool false) := fun K => rfl
  have l2 : ∀ K, ldC false 1 (.ptr sp 1) h K = K (.int .i64 sg.num) := fun K => by rw [ldC_p hs.k (by simp [sgC])]; rfl
  simp only [s34, c, cnd_f, nilC_p, faC_p, Nat.zero_add, l2]
theorem t5_sealed (hs : SegSt h bv bd bl w f n steps d sp ws sg) (hm : 2 ≤ m) : run t5.get m 29 [.ptr sp 0] h = some (.bool sg.shut, h) := by
  rw [t5_r29 (by omega)]
  have c : ∀ K, ceC .p false (.ptr sp 0) .nilp K = K (.bool false) := fun K => rfl
  have l2 : ∀ K, ldC false 1 (.ptr sp 8) h K = K (.bool sg.shut) := fun K => by rw [ldC_p hs.k (by simp [sgC])]; rfl
  simp only [s29, c, gdC_ff, elim_some, nilC_p, faC_p, Nat.zero_add, l2, pickC_f]
theorem t5_seal (hs : SegSt h bv bd bl w f n steps d sp ws sg) (hm : 2 ≤ m) : ∃ h', run t5.get m 33 [.ptr sp 0] h = some (.tup [], h') ∧ SegSt h' bv bd bl w f n steps d sp ws { sg with shut := true } ∧ K3 bv bd sp h h' := by
  have nbv := hs.ne_bv
  have st : Stays (fun b => b = sp) h (h.put sp (.cells (sgC bv ws { sg with shut := true }))) := (Stays.refl (fun b => b = sp) h).put (c := sp) (.inl rfl) hs.fit _
  have nbl : bl ≠ sp := by
    intro e
    have a := hs.v.dk.kl
    rw [e, hs.k] at a
    have a2 := congrArg List.length (Blk.cells.inj (Option.some.inj a))
    rw [flat_len _ hs.v.dk.l64] at a2
    have := hs.v.dk.l1
    simp [sgC] at a2
    omega
  refine ⟨h.put sp (.cells (sgC bv ws { sg with shut := true })), ?_, ⟨hs.v.stays st (fun e => nbv.1 e.symm) (fun e => nbv.2 e.symm) nbl (fun t h1 h2 => hs.v.dk.tokne hs.k t h1 h2.symm), blk_put_same _ _, ?_, hs.ne, hs.fit.put _ (hs.fit.lt hs.k)⟩, ⟨fun b c e _ _ h3 => st.keep _ _ e h3, st.nx⟩⟩
  · rw [t5_r33 (by omega)]
    have c : ∀ K, ceC .p true (.ptr sp 0) .nilp K = K (.bool true) := fun K => rfl
    have s8 : ∀ K, stC 1 (.ptr sp 8) (.bool true) h K = K (h.put sp (.cells (sgC bv ws { sg with shut := true }))) := fun K => st_one hs.k rfl (by simp [sgC]) K
    simp only [s33, c, cnd_t, nilC_p, faC_p, Nat.zero_add, s8]
  · have hg := hs.gr
    cases ws with
    | tok t =>
      refine st.keep _ _ hg ?_
      intro e; subst e
      have : h.blk t = some (.tok sg.l.length) := hg
      rw [hs.k] at this; cases this
    | nl => exact hg
    | ex => trivial
    | ro => exact hg.elim
theorem t5_clone {u : Own} {l : List Val} (hf : Fit h) (hl : l.length ≤ 1000000) (hm : 2 ≤ m) (hu : u = .nl → l = []) : ∃ u' h', run t5.get m 86 [.sl u 2 l] h = some (.sl u' 2 l, h') ∧ Up h h' := by
  by_cases c0 : u = .nl
  · have := hu c0
    subst c0 this
    refine ⟨.nl, h, ?_, .refl hf⟩
    rw [t5_r86 (by omega)]
    rfl
  · have c : ∀ K, ceC .l false (.sl u 2 l) (.sl .nl 2 []) K = K (.bool false) := fun K => by cases u <;> first | rfl | exact absurd rfl c0
    have b : ∀ K, bslC 2 [] K = K (.sl .ex 2 []) := fun K => rfl
    have hs : source true 2 (.sl u 2 l) h = some l := by simp [source]
    have hc : decide (([] : List Val).length + l.length ≤ room) = true := decide_eq_true (by simp [room]; omega)
    cases l with
    | nil =>
      have a : ∀ K, appC true 2 (.sl .ex 2 []) (.sl u 2 []) h K = K (.sl .ex 2 []) h := fun K => by simp only [appC, hs, hc, Nat.beq_refl, Bool.and_self, cond_true]
      refine ⟨.ex, h, ?_, .refl hf⟩
      rw [t5_r86 (by omega)]
      simp only [s86, c, cnd_f, b, a]
    | cons x l =>
      have hc' : decide ((x :: l).length ≤ room) = true := decide_eq_true (by simp [room] at hl ⊢; omega)
      have a : ∀ K, appC true 2 (.sl .ex 2 []) (.sl u 2 (x :: l)) h K = K (.sl (.tok h.next) 2 (x :: l)) (h.add (.tok (l.length + 1))) := fun K => by simp only [appC, hs, List.length_nil, Nat.zero_add, hc', Nat.beq_refl, Bool.and_self, cond_true, List.nil_append]
      refine ⟨.tok h.next, h.add (.tok (l.length + 1)), ?_, (Up.refl hf).add _⟩
      rw [t5_r86 (by omega)]
      simp only [s86, c, cnd_f, b, a]
theorem t5_frames (hs : SegSt h bv bd bl w f n steps d sp ws sg) (hl : sg.l.length ≤ 1000) (hm : 4 ≤ m) : ∃ u' h', run t5.get m 26 [.ptr sp 0] h = some (.sl u' 2 (sg.l.map frV), h') ∧ Up h h' := by
  obtain ⟨u', h', e, u⟩ := t5_clone (m := m - 1) (u := ws) (l := sg.l.map frV) hs.fit (by simp; omega) (by omega) (fun e => by
    subst e
    have : sg.l.length = 0 := hs.gr
    rw [List.eq_nil_of_length_eq_zero this]; rfl)
  refine ⟨u', h', ?_, u⟩
  rw [t5_r26 (by omega)]
  have c : ∀ K, ceC .p false (.ptr sp 0) .nilp K = K (.bool false) := fun K => rfl
  have l2 : ∀ K, ldC false 1 (.ptr sp 6) h K = K (.sl ws 2 (sg.l.map frV)) := fun K => by rw [ldC_p hs.k (by simp [sgC])]; rfl
  simp only [s26, c, cnd_f, nilC_p, faC_p, Nat.zero_add, l2, clC_of e]
def zero64 : List UInt8 := List.replicate 64 0
def d36 : Dk := ⟨List.replicate 36 zero64, []⟩
theorem repsL36 : repsL 36 (ofBytes zero64) = (List.replicate 36 zero64).flatMap ofBytes := by
  have : ∀ k, repsL k (ofBytes zero64) = (List.replicate k zero64).flatMap ofBytes := by
    intro k
    induction k with
    | zero => rfl
    | succ k ih => rw [repsL, ih, List.replicate_succ, List.flatMap_cons]
  exact this 36
theorem t5_fresh (hf : Fit h) (hm : 6 ≤ m) : ∃ bv bd bl h', run t5.get m 19 [] h = some (.ptr bv 0, h') ∧ ViewQ h' bv bd bl .nl 1 34 0 d36 ∧ Up h h' ∧ h.next ≤ bv ∧ h.next ≤ bd ∧ h.next ≤ bl := by
  let C0 := (List.replicate 36 zero64).flatMap ofBytes
  let C1 : List Val := [.ms h.next 0 36 36 64, .sl .nl 65 []]
  let C2 : List Val := [.ptr (h.next + 1) 0, .int .i64 1, .int .i64 34, .int .i64 (-1), .int .i64 0, .bool false]
  obtain ⟨H1, hH1⟩ : ∃ H, (h.add (.cells C0)).add (.cells C1) = H := ⟨_, rfl⟩
  obtain ⟨H2, hH2⟩ : ∃ H, H1.add (.cells C2) = H := ⟨_, rfl⟩
  have u1 : Up h H1 := hH1 ▸ ((Up.refl hf).add _).add _
  have u2 : Up H1 H2 := hH2 ▸ (Up.refl u1.fit).add _
  have n1 : H1.next = h.next + 2 := by rw [← hH1]; rfl
  have k0 : H1.blk h.next = some (.cells C0) := by
    rw [← hH1, blk_add_ne _ (by simp only [Heap.next_add]; omega)]; exact blk_add_same _
  have k1 : H1.blk (h.next + 1) = some (.cells C1) := by rw [← hH1]; exact blk_add_same (h := h.add (.cells C0)) _
  have dk : DiskAt H1 (h.next + 1) h.next .nl d36 := ⟨k1, k0, rfl, (by intro s hs; rw [List.eq_of_mem_replicate hs]; rfl), (by intro x hx; cases hx), (by decide), (by decide), (by decide), (by omega)⟩
  have ed : run t5.get (m - 1) 70 [.int .i64 36] h = some (.tup [.ptr (h.next + 1) 0, .int .i64 0], H1) := by
    rw [t5_r70 (by omega)]
    have ms : ∀ K, msmC 64 (.agg (ofBytes zero64)) (.int .i64 36) (.int .i64 36) h K = K (.ms h.next 0 36 36 64) (h.add (.cells C0)) := fun K => by
      have hc : (decide ((0 : Int) ≤ 36) && decide ((36 : Int) ≤ 36) && decide ((36 : Int) ≤ (room : Int))) = true := by rfl
      have hr : repsL 36 (cells (.agg (ofBytes zero64))) = C0 := repsL36
      simp only [msmC, hc, cond_true]
      show K (.ms h.next 0 36 36 64) (h.add (.cells (repsL 36 (cells (.agg (ofBytes zero64)))))) = _
      rw [hr]
    have hz : [Val.int .u8 0, .int .u8 0, .int .u8 0, .int .u8 0, .int .u8 0, .int .u8 0, .int .u8 0, .int .u8 0, .int .u8 0, .int .u8 0, .int .u8 0, .int .u8 0, .int .u8 0, .int .u8 0, .int .u8 0, .int .u8 0, .int .u8 0, .int .u8 0, .int .u8 0, .int .u8 0, .int .u8 0, .int .u8 0, .int .u8 0, .int .u8 0, .int .u8 0, .int .u8 0, .int .u8 0, .int .u8 0, .int .u8 0, .int .u8 0, .int .u8 0, .int .u8 0, .int .u8 0, .int .u8 0, .int .u8 0, .int .u8 0, .int .u8 0, .int .u8 0, .int .u8 0, .int .u8 0, .int .u8 0, .int .u8 0, .int .u8 0, .int .u8 0, .int .u8 0, .int .u8 0, .int .u8 0, .int .u8 0, .int .u8 0, .int .u8 0, .int .u8 0, .int .u8 0, .int .u8 0, .int .u8 0, .int .u8 0, .int .u8 0, .int .u8 0, .int .u8 0, .int .u8 0, .int .u8 0, .int .u8 0, .int .u8 0, .int .u8 0, .int .u8 0] = ofBytes zero64 := rfl
    have g1 : icmp .lt 36 1 = false := rfl
    have g2 : icmp .gt 36 8192 = false := rfl
    have ag : ∀ K, aggC [.sl .nl 64 [], .sl .nl 65 []] [(0, 1, .ms h.next 0 36 36 64)] K = K (.agg C1) := fun K => rfl
    have bx : ∀ K, boxC 2 (.agg C1) (h.add (.cells C0)) K = K (.ptr (h.next + 1) 0) H1 := fun K => by rw [← hH1]; exact boxC_e rfl
    simp only [s70, cmC_int, g1, gdC_ff, elim_some, g2, pickC_f, cnd_f, hz, ms, ag, bx]
  have es := t5_size dk (m := m - 2) (by omega)
  have ev : run t5.get (m - 1) 71 [.ptr (h.next + 1) 0, .int .i64 1, .int .i64 34] H1 = some (.tup [.ptr (h.next + 2) 0, .int .i64 0], H2) := by
    rw [t5_r71 (by omega)]
    have c : ∀ K, ceC .p false (.ptr (h.next + 1) 0) .nilp K = K (.bool false) := fun K => rfl
    have es' : run t5.get (m - 1 - 1) 120 [.ptr (h.next + 1) 0] H1 = some (.int .i64 36, H1) := es
    have g1 : icmp .lt 1 0 = false := rfl
    have g2 : icmp .lt 34 1 = false := rfl
    have g3 : icmp .gt 1 36 = false := rfl
    have a1 : IntKind.i64.wrap (36 - 1) = 35 := rfl
    have g4 : icmp .gt 34 35 = false := rfl
    have ag : ∀ K, aggC [.nilp, .int .i64 0, .int .i64 0, .int .i64 0, .int .i64 0, .bool false] [(0, 1, .ptr (h.next + 1) 0), (1, 1, .int .i64 1), (2, 1, .int .i64 34), (3, 1, (.int .i64 (-1) : Val))] K = K (.agg C2) := fun K => rfl
    have bx : ∀ K, boxC 6 (.agg C2) H1 K = K (.ptr (h.next + 2) 0) H2 := fun K => by
      rw [← hH2, ← n1]; exact boxC_e rfl
    simp only [s71, c, cnd_f, cmC_int, g1, gdC_ff, elim_some, g2, pickC_f, clC_of es', g3, biC_sub, a1, g4, ag, bx]
  refine ⟨h.next + 2, h.next + 1, h.next, H2, ?_, ⟨?_, dk.stays u2.stays (fun h => h) (fun h => h) (fun _ _ h => h), by decide, by omega, by omega, by omega⟩, u1.trans u2, by omega, by omega, Nat.le_refl _⟩
  · rw [t5_r19 (by omega)]
    simp only [s19, clC_of ed, exC_0, exC_1, clC_of ev]
  · rw [← hH2, ← n1]; exact blk_add_same _
theorem d36_sec {b : Nat} (hb : b + 16 ≤ 36) : d36.sec b = List.replicate 16 zero64 := by
  apply List.ext_getElem?
  intro j
  by_cases hj : j < 16
  · have hlt : b + j < 36 := by omega
    simp only [Dk.sec, Dk.read, d36, lastW, List.foldl_nil, List.getElem?_map, List.getElem?_range hj, Option.map_some, List.getElem?_replicate, hj, hlt, if_true, Option.getD_some]
  · rw [List.getElem?_eq_none (by rw [sec_len]; omega), List.getElem?_eq_none (by simp; omega)]
 end
end Go.AM.T
set_option maxRecDepth 100000
set_option linter.unusedVariables false
set_option linter.unusedSimpArgs false
namespace Go.AM.T
open Go Go.AM
def rdP (x : Sec) (j : Nat) : List Val := secC (x.take j) ++ (reps (16 - j) (.str []) ++ [.bool true])
def z17 : List Val := [.str [], .str [], .str [], .str [], .str [], .str [], .str [], .str [], .str [], .str [], .str [], .str [], .str [], .str [], .str [], .str [], .bool false]
theorem rdP_len {x : Sec} (hx : x.length = 16) {j : Nat} (hj : j ≤ 16) : (rdP x j).length = 17 := by
  have : ∀ n v, (reps n v).length = n := by intro n v; induction n with
    | zero => rfl
    | succ n ih => simp [reps, ih]
  simp [rdP, secC_len, this, hx]; omega
theorem rdP_set {x : Sec} (hx : x.length = 16) {j : Nat} (hj : j < 16) : (rdP x j).take j ++ [.str (x[j]'(by omega))] ++ (rdP x j).drop (j + 1) = rdP x (j + 1) := by
  obtain ⟨a0, a1, a2, a3, a4, a5, a6, a7, a8, a9, b0, b1, b2, b3, b4, b5, rfl⟩ := sec16 hx
  rcases (by omega : j = 0 ∨ j = 1 ∨ j = 2 ∨ j = 3 ∨ j = 4 ∨ j = 5 ∨ j = 6 ∨ j = 7 ∨ j = 8 ∨ j = 9 ∨ j = 10 ∨ j = 11 ∨ j = 12 ∨ j = 13 ∨ j = 14 ∨ j = 15) with rfl | rfl | rfl | rfl | rfl | rfl | rfl | rfl | rfl | rfl | rfl | rfl | rfl | rfl | rfl | rfl <;> rfl
theorem rdP_16 {x : Sec} (hx : x.length = 16) {j : Nat} (hj : j ≤ 16) : ((rdP x j).drop 16).take 1 = [.bool true] ∧ (rdP x j).take 16 ++ [.bool true] ++ (rdP x j).drop (16 + 1) = rdP x j := by
  obtain ⟨a0, a1, a2, a3, a4, a5, a6, a7, a8, a9, b0, b1, b2, b3, b4, b5, rfl⟩ := sec16 hx
  rcases (by omega : j = 0 ∨ j = 1 ∨ j = 2 ∨ j = 3 ∨ j = 4 ∨ j = 5 ∨ j = 6 ∨ j = 7 ∨ j = 8 ∨ j = 9 ∨ j = 10 ∨ j = 11 ∨ j = 12 ∨ j = 13 ∨ j = 14 ∨ j = 15 ∨ j = 16) with rfl | rfl | rfl | rfl | rfl | rfl | rfl | rfl | rfl | rfl | rfl | rfl | rfl | rfl | rfl | rfl | rfl <;> exact ⟨rfl, rfl⟩
theorem rdP_end {x : Sec} (hx : x.length = 16) : rdP x 16 = secC x ++ [.bool true] := by
  simp [rdP, reps, List.take_of_length_le (Nat.le_of_eq hx)]
theorem sec_get {d : Dk} {b j : Nat} (hj : j < 16) : (d.sec b)[j]'(by rw [sec_len]; exact hj) = d.read (b + j) := by simp [Dk.sec]
section
variable {m : Nat} {h : Heap} {bv bd bl f n steps sp : Nat} {w ws : Own} {d : Dk} {sg : Sg}
theorem loop_rd16 {q nn c4 c5 num : Nat} (hq : d.waits.length + 13 ≤ q) (hn2 : n < 100000) (hk : 2 + 16 * num + 16 ≤ n) (h45 : c4 ≠ c5) (ha : ¬ ownV bv bd w c5) (hbl : bl ≠ c5) :
    ∀ (k j : Nat), j + k = 16 → ∀ (m : Nat), k < m → ∀ (h : Heap), Fit h → ViewQ h bv bd bl w f n steps d → h.blk c5 = some (.cells (rdP (d.sec (f + (2 + 16 * num))) j)) → h.blk c4 = some (.cells z17) →
    ∃ h', iter m (fun again0 xs h => s32_l0 (run t5.get q) nn again0 (.ptr bv 0) (.int .i64 num) (.ptr c4 0) (.ptr c5 0) (getN xs 0) h) [.int .i64 j] h = some (.agg (secC (d.sec (f + (2 + 16 * num))) ++ [.bool true]), h') ∧ Fit h' ∧ (∀ b x, h.blk b = some x → b ≠ c4 → b ≠ c5 → h'.blk b = some x) ∧ h.next ≤ h'.next
  | 0, j, hj, m, hm, h, hf, hv, k5, k4 => by
    obtain ⟨m, rfl⟩ : ∃ q, m = q + 1 := ⟨m - 1, by omega⟩
    have : j = 16 := by omega
    subst this
    have hx := sec_len d (f + (2 + 16 * num))
    have g1 : icmp .lt ((16 : Nat) : Int) 16 = false := rfl
    have l17 : ∀ K, ldC true 17 (.ptr c5 0) h K = K (.agg (secC (d.sec (f + (2 + 16 * num))) ++ [.bool true])) := fun K => by
      rw [← rdP_end hx]; exact ld_all k5 (rdP_len hx (Nat.le_refl _)) K
    have s17 : ∀ K, stC 17 (.ptr c4 0) (.agg (secC (d.sec (f + (2 + 16 * num))) ++ [.bool true])) h K = K (h.put c4 (.cells (secC (d.sec (f + (2 + 16 * num))) ++ [.bool true]))) := fun K => st_all (n := 17) k4 rfl (by simp [secC_len, hx]) K
    have l17' : ∀ K, ldC true 17 (.ptr c4 0) (h.put c4 (.cells (secC (d.sec (f + (2 + 16 * num))) ++ [.bool true]))) K = K (.agg (secC (d.sec (f + (2 + 16 * num))) ++ [.bool true])) := fun K => ld_all (blk_put_same _ _) (by simp [secC_len, hx]) K
    refine ⟨h.put c4 (.cells (secC (d.sec (f + (2 + 16 * num))) ++ [.bool true])), ?_, hf.put _ (hf.lt k4), fun b x e h1 h2 => by rw [blk_put_ne _ h1]; exact e, Nat.le_refl _⟩
    rw [iter_succ]
    simp only [getN_0, s32_l0, cmC_int, g1, cnd_f, l17, s17, l17']
  | k + 1, j, hj, m, hm, h, hf, hv, k5, k4 => by
    obtain ⟨m, rfl⟩ : ∃ q, m = q + 1 := ⟨m - 1, by omega⟩
    have hx := sec_len d (f + (2 + 16 * num))
    have hj16 : j < 16 := by omega
    have hll := hv.dk.ll
    have hfit := hv.fit
    obtain ⟨h1, e1, u1, u2, u3⟩ := t5_vread hv (m := q) (i := 2 + 16 * num + j) (by omega) (by omega)
    have up1 : Up h h1 := ⟨fun b x e => u1 b x e hf, u3, u2 hf⟩
    have k5' := up1.keep _ _ k5
    have k4' := up1.keep _ _ k4
    let P := rdP (d.sec (f + (2 + 16 * num)))
    obtain ⟨H2, hH2⟩ : ∃ H2, h1.put c5 (.cells (P (j + 1))) = H2 := ⟨_, rfl⟩
    obtain ⟨H3, hH3⟩ : ∃ H3, H2.put c5 (.cells (P (j + 1))) = H3 := ⟨_, rfl⟩
    have q5 : H2.blk c5 = some (.cells (P (j + 1))) := by rw [← hH2]; exact blk_put_same _ _
    have r5 : H3.blk c5 = some (.cells (P (j + 1))) := by rw [← hH3]; exact blk_put_same _ _
    have st : Stays (fun b => b = c5) h1 H3 := by
      have a : Stays (fun b => b = c5) h1 H2 := by rw [← hH2]; exact (Stays.refl (fun b => b = c5) h1).put (c := c5) (.inl rfl) up1.fit _
      rw [← hH3]; exact a.put (c := c5) (.inl rfl) up1.fit _
    have hf2 : Fit H2 := hH2 ▸ up1.fit.put _ (up1.fit.lt k5')
    have hf3 : Fit H3 := hH3 ▸ hf2.put _ (hf2.lt q5)
    have r4 := st.keep _ _ k4' h45
    have hv3 : ViewQ H3 bv bd bl w f n steps d := (hv.up up1).stays st (fun e => ha (.inl e.symm)) (fun e => ha (.inr (.inl e.symm))) hbl (fun t ht e => ha (.inr (.inr ⟨t, ht, e.symm⟩)))
    obtain ⟨h', ih, hf', kp, nx⟩ := loop_rd16 hq hn2 hk h45 ha hbl k (j + 1) (by omega) m (by omega) H3 hf3 hv3 r5 r4
    refine ⟨h', ?_, hf', fun b x e b4 b5 => kp b x (st.keep b x (up1.keep b x e) b5) b4 b5, Nat.le_trans up1.nx (Nat.le_trans st.nx nx)⟩
    rw [iter_succ]
    generalize iter m (fun again0 xs h => s32_l0 (run t5.get q) nn again0 (.ptr bv 0) (.int .i64 num) (.ptr c4 0) (.ptr c5 0) (getN xs 0) h) = G at ih ⊢
    have g1 : icmp .lt (j : Int) 16 = true := decide_eq_true (by omega)
    have a1 : IntKind.i64.wrap (16 * (num : Int)) = ((16 * num : Nat) : Int) := by rw [wrap_i64 (by omega) (by omega)]; omega
    have a2 : IntKind.i64.wrap (2 + ((16 * num : Nat) : Int)) = ((2 + 16 * num : Nat) : Int) := by rw [wrap_i64 (by omega) (by omega)]; omega
    have a3 : IntKind.i64.wrap (((2 + 16 * num : Nat) : Int) + (j : Int)) = ((2 + 16 * num + j : Nat) : Int) := by rw [wrap_i64 (by omega) (by omega)]; rfl
    have ix : ∀ K, ixpC 16 1 (.ptr c5 0) (.int .i64 (j : Int)) K = K (.ptr c5 j) := fun K => by
      rw [ixpC_p (by omega) (by omega)]; simp
    have ss : ∀ K, stC 1 (.ptr c5 j) (.str (d.read (f + (2 + 16 * num + j)))) h1 K = K H2 := fun K => by
      rw [stC_p (n := 1) k5' rfl (by rw [rdP_len hx (by omega)]; omega), ← hH2]
      have : (rdP (d.sec (f + (2 + 16 * num))) j).take j ++ cells (.str (d.read (f + (2 + 16 * num + j)))) ++ (rdP (d.sec (f + (2 + 16 * num))) j).drop (j + 1) = P (j + 1) := by
        have e := rdP_set hx hj16
        rw [sec_get hj16, show f + (2 + 16 * num) + j = f + (2 + 16 * num + j) by omega] at e
        exact e
      rw [this]
    have l16 : ∀ K, ldC false 1 (.ptr c5 16) H2 K = K (.bool true) := fun K => by
      rw [ldC_p q5 (by rw [rdP_len hx (by omega)]; omega), (rdP_16 hx (by omega)).1]; rfl
    have s16 : ∀ K, stC 1 (.ptr c5 16) (.bool true) H2 K = K H3 := fun K => by
      rw [stC_p (n := 1) q5 rfl (by rw [rdP_len hx (by omega)]; omega), ← hH3]
      have := (rdP_16 hx (show j + 1 ≤ 16 by omega)).2
      rw [show cells (.bool true) = [Val.bool true] from rfl, this]
    have g2 : icmp .eq (0 : Int) 0 = true := rfl
    have a4 : IntKind.i64.wrap ((j : Int) + 1) = ((j + 1 : Nat) : Int) := i64s (by omega)
    simp only [getN_0, s32_l0, cmC_int, g1, cnd_t, biC_mul, a1, biC_add, a2, a3, clC_of e1, exC_0, exC_1, faC_p, Nat.zero_add, ix, ss, l16, gdC_tt, elim_some, g2, pickC_t, s16, a4]
    exact ih
theorem t5_read (hv : ViewQ h bv bd bl w f n steps d) (hf : Fit h) {num : Nat} (hm : d.waits.length + 40 ≤ m) (hn2 : n < 100000) (hk : 2 + 16 * num + 16 ≤ n) :
    ∃ h', run t5.get m 32 [.ptr bv 0, .int .i64 num] h = some (.agg (secC (d.sec (f + (2 + 16 * num))) ++ [.bool true]), h') ∧ Up h h' := by
  obtain ⟨H1, hH1⟩ : ∃ H, (h.add (.cells z17)).add (.cells z17) = H := ⟨_, rfl⟩
  have u1 : Up h H1 := hH1 ▸ ((Up.refl hf).add _).add _
  have n1 : H1.next = h.next + 2 := by rw [← hH1]; rfl
  have k0 : H1.blk h.next = some (.cells z17) := by
    rw [← hH1, blk_add_ne _ (by simp only [Heap.next_add]; omega)]; exact blk_add_same _
  have k1 : H1.blk (h.next + 1) = some (.cells z17) := by rw [← hH1]; exact blk_add_same (h := h.add (.cells z17)) _
  let x := d.sec (f + (2 + 16 * num))
  obtain ⟨H2, hH2⟩ : ∃ H, H1.put (h.next + 1) (.cells (rdP x 0)) = H := ⟨_, rfl⟩
  have q1 : H2.blk (h.next + 1) = some (.cells (rdP x 0)) := by rw [← hH2]; exact blk_put_same _ _
  have u2 : Up h H2 := hH2 ▸ u1.put hf (by omega) (by omega) _
  have q0 : H2.blk h.next = some (.cells z17) := by rw [← hH2, blk_put_ne _ (by omega)]; exact k0
  have hb := hf.lt hv.kv
  have hb2 := hf.lt hv.dk.k
  have hb3 := hf.lt hv.dk.kl
  have ha : ¬ ownV bv bd w (h.next + 1) := by
    rintro (e | e | ⟨t, ht, e⟩)
    · omega
    · omega
    · subst ht
      have : h.blk t = some (.tok d.waits.length) := hv.dk.gr
      have := hf.lt this
      omega
  obtain ⟨h', e, hf', kp, nx⟩ := loop_rd16 (q := m - 1) (nn := m - 1) (c4 := h.next) (c5 := h.next + 1) (num := num) (bl := bl) (by omega) hn2 hk (by omega) ha (by omega) 16 0 rfl (m - 1) (by omega) H2 u2.fit (hv.up u2) q1 q0
  refine ⟨h', ?_, ⟨fun b x e => kp b x (u2.keep b x e) (by have := hf.lt e; omega) (by have := hf.lt e; omega), Nat.le_trans u2.nx nx, hf'⟩⟩
  rw [t5_r32 (by omega)]
  have hz : [Val.str [], .str [], .str [], .str [], .str [], .str [], .str [], .str [], .str [], .str [], .str [], .str [], .str [], .str [], .str [], .str [], .bool false] = z17 := rfl
  have ag : ∀ K, aggC z17 [(16, 1, (.bool true : Val))] K = K (.agg (rdP x 0)) := fun K => rfl
  have s17 : ∀ K, stC 17 (.ptr (h.next + 1) 0) (.agg (rdP x 0)) H1 K = K H2 := fun K => by
    rw [← hH2]; exact st_all (n := 17) k1 rfl (rdP_len (sec_len _ _) (by omega)) K
  simp only [s32, hz, allocC_e, ag, Heap.next_add, hH1, s17]
  exact e
theorem t5_ref {log gen st base : Int} (hf : Fit h) (hm : 2 ≤ m) : ∃ h', run t5.get m 13 [hV log gen st base] h = some (hV log gen st base, h') ∧ Up h h' := by
  let c4 : List Val := [.int .i64 log, .int .u32 gen, .int .u32 st, .int .i64 base]
  let z4 : List Val := [.int .i64 0, .int .u32 0, .int .u32 0, .int .i64 0]
  obtain ⟨H1, hH1⟩ : ∃ H, (h.add (.cells c4)).add (.cells z4) = H := ⟨_, rfl⟩
  have u1 : Up h H1 := hH1 ▸ ((Up.refl hf).add _).add _
  have n1 : H1.next = h.next + 2 := by rw [← hH1]; rfl
  have k0 : H1.blk h.next = some (.cells c4) := by
    rw [← hH1, blk_add_ne _ (by simp only [Heap.next_add]; omega)]; exact blk_add_same _
  have k1 : H1.blk (h.next + 1) = some (.cells z4) := by rw [← hH1]; exact blk_add_same (h := h.add (.cells c4)) _
  refine ⟨H1.put (h.next + 1) (.cells c4), ?_, u1.put hf (by omega) (by omega) _⟩
  rw [t5_r13 (by omega)]
  have bx : ∀ K, boxC 4 (hV log gen st base) h K = K (.ptr h.next 0) (h.add (.cells c4)) := fun K => boxC_e rfl
  have l0 : ∀ K, ldC false 1 (.ptr h.next 0) H1 K = K (.int .i64 log) := fun K => by rw [ldC_p k0 (by simp [c4])]; rfl
  have l1 : ∀ K, ldC false 1 (.ptr h.next 1) H1 K = K (.int .u32 gen) := fun K => by rw [ldC_p k0 (by simp [c4])]; rfl
  have l2 : ∀ K, ldC false 1 (.ptr h.next 2) H1 K = K (.int .u32 st) := fun K => by rw [ldC_p k0 (by simp [c4])]; rfl
  have l3 : ∀ K, ldC false 1 (.ptr h.next 3) H1 K = K (.int .i64 base) := fun K => by rw [ldC_p k0 (by simp [c4])]; rfl
  have hz : [Val.int .i64 0, .int .u32 0, .int .u32 0, .int .i64 0] = z4 := rfl
  have ag : ∀ K, aggC z4 [(0, 1, .int .i64 log), (1, 1, .int .u32 gen), (2, 1, .int .u32 st), (3, 1, .int .i64 base)] K = K (.agg c4) := fun K => rfl
  have s4 : ∀ K, stC 4 (.ptr (h.next + 1) 0) (.agg c4) H1 K = K (H1.put (h.next + 1) (.cells c4)) := fun K => st_all (n := 4) (l := z4) (x := c4) k1 rfl rfl K
  have l4 : ∀ K, ldC true 4 (.ptr (h.next + 1) 0) (H1.put (h.next + 1) (.cells c4)) K = K (.agg c4) := fun K => ld_all (n := 4) (blk_put_same _ _) rfl K
  simp only [s13, hz, bx, allocC_e, Heap.next_add, hH1, faC_p, Nat.add_zero, Nat.zero_add, l0, l1, l2, l3, ag, s4, l4]
  rfl
def largeM (l : List Fr) : Bool := decide (40 < l.length) || l.any fun f => decide (900 < f.2.length)
theorem loop_large {q nn : Nat} {u : Own} {l : List Fr} (hl : l.length ≤ 40) : ∀ (k j : Nat), j + k = l.length → ∀ (m : Nat), k < m → ∀ (h : Heap), Fit h →
    ∃ h', iter m (fun again0 xs h => s11_l0 (run t5.get q) nn again0 (.sl u 2 (l.map frV)) (.int .i64 l.length) (getN xs 0) h) [.int .i64 j] h = some (.bool ((l.drop j).any fun f => decide (900 < f.2.length)), h') ∧ Up h h'
  | 0, j, hj, m, hm, h, hf => by
    obtain ⟨m, rfl⟩ : ∃ q, m = q + 1 := ⟨m - 1, by omega⟩
    have : j = l.length := by omega
    subst this
    refine ⟨h, ?_, .refl hf⟩
    have g1 : icmp .lt (l.length : Int) (l.length : Int) = false := decide_eq_false (by omega)
    rw [iter_succ]
    simp only [getN_0, s11_l0, cmC_int, g1, cnd_f, List.drop_length, List.any_nil]
  | k + 1, j, hj, m, hm, h, hf => by
    obtain ⟨m, rfl⟩ : ∃ q, m = q + 1 := ⟨m - 1, by omega⟩
    have hjl : j < l.length := by omega
    obtain ⟨H1, hH1⟩ : ∃ H, (h.add (.cells [.int .i64 0, .str []])).put h.next (.cells [.int .i64 l[j].1, .str l[j].2]) = H := ⟨_, rfl⟩
    have u1 : Up h H1 := hH1 ▸ ((Up.refl hf).add _).put hf (Nat.le_refl _) (Nat.lt_succ_self _) _
    have k1 : H1.blk h.next = some (.cells [.int .i64 l[j].1, .str l[j].2]) := by rw [← hH1]; exact blk_put_same _ _
    have g1 : icmp .lt (j : Int) (l.length : Int) = true := decide_eq_true (by omega)
    have x1 : ∀ K, ixsC 2 (.sl u 2 (l.map frV)) (.int .i64 (j : Int)) K = K (.ep [.int .i64 l[j].1, .str l[j].2]) := fun K => ixsC_sl (v := frV l[j]) (by rw [List.getElem?_map, List.getElem?_eq_getElem hjl]; rfl)
    have x2 : ∀ K, ldC true 2 (.ep [.int .i64 l[j].1, .str l[j].2]) h K = K (.agg [.int .i64 l[j].1, .str l[j].2]) := fun K => rfl
    have s2 : ∀ K, stC 2 (.ptr h.next 0) (.agg [.int .i64 l[j].1, .str l[j].2]) (h.add (.cells [.int .i64 0, .str []])) K = K H1 := fun K => by rw [← hH1]; exact st_all (n := 2) (blk_add_same _) rfl rfl K
    have l1 : ∀ K, ldC false 1 (.ptr h.next 1) H1 K = K (.str l[j].2) := fun K => by rw [ldC_p k1 (by simp)]; rfl
    rw [drop_cons hjl, List.any_cons]
    by_cases c : 900 < l[j].2.length
    · have g2 : icmp .gt (l[j].2.length : Int) 900 = true := decide_eq_true (by omega)
      refine ⟨H1, ?_, u1⟩
      rw [iter_succ, decide_eq_true c, Bool.true_or]
      simp only [getN_0, s11_l0, cmC_int, g1, cnd_t, x1, x2, allocC_e, s2, faC_p, Nat.zero_add, l1, lensC_s, g2]
    · have g2 : icmp .gt (l[j].2.length : Int) 900 = false := decide_eq_false (by omega)
      obtain ⟨h', ih, u2⟩ := loop_large hl (q := q) (nn := nn) (u := u) k (j + 1) (by omega) m (by omega) H1 u1.fit
      refine ⟨h', ?_, u1.trans u2⟩
      rw [iter_succ, decide_eq_false c, Bool.false_or]
      generalize iter m (fun again0 xs h => s11_l0 (run t5.get q) nn again0 (.sl u 2 (l.map frV)) (.int .i64 l.length) (getN xs 0) h) = G at ih ⊢
      have a1 : IntKind.i64.wrap ((j : Int) + 1) = ((j + 1 : Nat) : Int) := i64s (by omega)
      simp only [getN_0, s11_l0, cmC_int, g1, cnd_t, x1, x2, allocC_e, s2, faC_p, Nat.zero_add, l1, lensC_s, g2, cnd_f, biC_add, a1]
      exact ih
theorem t5_large {u : Own} {l : List Fr} (hf : Fit h) (hm : 100 ≤ m) : ∃ h', run t5.get m 11 [.sl u 2 (l.map frV)] h = some (.bool (largeM l), h') ∧ Up h h' := by
  unfold largeM
  by_cases c : 40 < l.length
  · have g : icmp .gt (l.length : Int) 40 = true := decide_eq_true (by omega)
    refine ⟨h, ?_, .refl hf⟩
    rw [t5_r11 (by omega), decide_eq_true c]
    simp only [s11, lenlC_s, List.length_map, cmC_int, g, cnd_t, Bool.true_or]
  · have g : icmp .gt (l.length : Int) 40 = false := decide_eq_false (by omega)
    obtain ⟨h', e, u1⟩ := loop_large (q := m - 1) (nn := m - 1) (u := u) (l := l) (by omega) l.length 0 (by omega) (m - 1) (by omega) h hf
    refine ⟨h', ?_, u1⟩
    rw [t5_r11 (by omega), decide_eq_false c]
    simp only [s11, lenlC_s, List.length_map, cmC_int, g, cnd_f, Bool.false_or]
    exact e
 end
end Go.AM.T
set_option maxRecDepth 100000
set_option linter.unusedVariables false
set_option linter.unusedSimpArgs false
namespace Go.AM.T
open Go Go.AM
theorem eqvs_frs : ∀ l : List Fr, eqvs (l.map frV) (l.map frV) = true
  | [] => rfl
  | f :: l => by
    show (eqv (frV f) (frV f) && eqvs (l.map frV) (l.map frV)) = true
    rw [eqvs_frs l]
    simp [frV, eqv, eqvs, eqB_d]
theorem eqv_sl (w : Own) (l : List Fr) : eqv (.sl w 2 (l.map frV)) (.sl w 2 (l.map frV)) = true := by
  rw [eqv, eqvs_frs]
  cases w <;> simp [eqo]
theorem eqks_strs : ∀ (x : Sec), eqks (x.map fun _ => CK.s) (secC x) (secC x) = some true
  | [] => rfl
  | s :: x => by
    have ih := eqks_strs x
    show (match eqk .s (.str s) (.str s) with | some p => (match eqks (x.map fun _ => CK.s) (secC x) (secC x) with | some q => some (p && q) | none => none) | none => none) = some true
    rw [ih]
    simp [eqk, eqB_d]
theorem ceaC_sec {x : Sec} (hx : x.length = 16) (ne : Bool) (K : Val → R) : ceaC [.s, .s, .s, .s, .s, .s, .s, .s, .s, .s, .s, .s, .s, .s, .s, .s] ne (.agg (secC x)) (.agg (secC x)) K = K (.bool (true != ne)) := by
  have e := eqks_strs x
  have : (x.map fun _ => CK.s) = [.s, .s, .s, .s, .s, .s, .s, .s, .s, .s, .s, .s, .s, .s, .s, .s] := by
    obtain ⟨a0, a1, a2, a3, a4, a5, a6, a7, a8, a9, b0, b1, b2, b3, b4, b5, rfl⟩ := sec16 hx
    rfl
  rw [this] at e
  simp only [ceaC, e]
theorem appM_ok {d : Made} (h : d.Ok) (hl : d.l.length < d.e) {f : Fr} : (appM d f).1.Ok ∧ (appM d f).1.l.length < (appM d f).1.e ∧ (appM d f).1.log = d.log ∧ (appM d f).1.gen = d.gen ∧ (appM d f).1.st = d.st ∧ (appM d f).1.base = d.base := by
  unfold appM
  by_cases c : wrongM (place16 d.e) f.1 f.2 = 0
  · simp only [c, ne_eq, not_true_eq_false, if_false]
    split
    · exact ⟨h, hl, rfl, rfl, rfl, rfl⟩
    · rename_i c2
      have hp : 1 ≤ (pieces (encF d.st (place16 d.e) (UInt8.ofNat f.1.toNat :: f.2))).length := by
        rw [pieces, pcs_len, encF_len]; unfold many; simp; omega
      have := h.e16
      have := h.e1
      refine ⟨⟨h.gen, h.st, h.log, h.base, ?_, ?_, ?_, ?_⟩, ?_, rfl, rfl, rfl, rfl⟩
      · simp only [List.length_append, List.length_singleton]; omega
      · simp only; omega
      · simp only; omega
      · simp only [putM_len]; exact h.x
      · simp only [List.length_append, List.length_singleton]; omega
  · simp only [ne_eq, c, not_false_eq_true, if_true]
    exact ⟨h, hl, trivial, trivial, trivial, trivial⟩
structure PIn (bv bd bl sp c3 c10 log gen st base num j : Nat) (h : Heap) (w ws w10 : Own) (d : Dk) (steps : Nat) (sg : Sg) : Prop where
  s : SegSt h bv bd bl w 1 34 steps d sp ws sg
  k3 : h.blk c3 = some (.cells [.int .i64 log, .int .u32 gen, .int .u32 st, .int .i64 base])
  k10 : h.blk c10 = some (.cells (madeC w10 (sg.made (d.sec (1 + (2 + 16 * num))))))
  pw : pureV (.sl w10 2 []) = true
  ok : (sg.made (d.sec (1 + (2 + 16 * num)))).Ok
  le : sg.l.length < sg.e
  sh : sg.shut = false
  num : sg.num = num
  log : sg.log = log
  gen : sg.gen = gen
  st : sg.st = st
  base : sg.base = base
  wa : d.waits.length ≤ 16 + 16 * j
  stp : steps ≤ 16 + 16 * j
section
variable {bv bd bl sp c3 c10 log gen st base num j : Nat} {h : Heap} {w ws w10 : Own} {d : Dk} {steps : Nat} {sg : Sg}
theorem PIn.up (p : PIn bv bd bl sp c3 c10 log gen st base num j h w ws w10 d steps sg) {h' : Heap} (u : Up h h') : PIn bv bd bl sp c3 c10 log gen st base num j h' w ws w10 d steps sg :=
  ⟨p.s.up u, u.keep _ _ p.k3, u.keep _ _ p.k10, p.pw, p.ok, p.le, p.sh, p.num, p.log, p.gen, p.st, p.base, p.wa, p.stp⟩
theorem PIn.ne3 (p : PIn bv bd bl sp c3 c10 log gen st base num j h w ws w10 d steps sg) : c3 ≠ bv ∧ c3 ≠ bd ∧ c3 ≠ sp ∧ c3 ≠ c10 := by
  have e := p.k3
  refine ⟨?_, ?_, ?_, ?_⟩ <;> intro q <;> rw [q] at e
  · rw [p.s.v.kv] at e; cases e
  · rw [p.s.v.dk.k] at e; cases e
  · rw [p.s.k] at e; cases e
  · rw [p.k10] at e
    have := congrArg List.length (Blk.cells.inj (Option.some.inj e))
    rw [madeC_len _ p.ok.x] at this; simp at this
theorem PIn.ne10 (p : PIn bv bd bl sp c3 c10 log gen st base num j h w ws w10 d steps sg) : c10 ≠ bv ∧ c10 ≠ bd ∧ c10 ≠ sp ∧ c10 ≠ bl := by
  have e := p.k10
  have hl := madeC_len w10 p.ok.x
  refine ⟨?_, ?_, ?_, ?_⟩ <;> intro q <;> rw [q] at e
  · rw [p.s.v.kv] at e
    have := congrArg List.length (Blk.cells.inj (Option.some.inj e))
    rw [hl] at this; simp at this
  · rw [p.s.v.dk.k] at e
    have := congrArg List.length (Blk.cells.inj (Option.some.inj e))
    rw [hl] at this; simp at this
  · rw [p.s.k] at e
    have := congrArg List.length (Blk.cells.inj (Option.some.inj e))
    rw [hl] at this; simp [sgC] at this
  · rw [p.s.v.dk.kl] at e
    have := congrArg List.length (Blk.cells.inj (Option.some.inj e))
    rw [flat_len _ p.s.v.dk.l64, hl] at this
    have := p.s.v.dk.l1
    omega
theorem SegSt.put10 (hs : SegSt h bv bd bl w 1 34 steps d sp ws sg) {x y : List Val} (e : h.blk c10 = some (.cells x)) (n1 : c10 ≠ bv) (n2 : c10 ≠ bd) (n3 : c10 ≠ sp) (n4 : c10 ≠ bl) : SegSt (h.put c10 (.cells y)) bv bd bl w 1 34 steps d sp ws sg := by
  have st : Stays (fun b => b = c10) h (h.put c10 (.cells y)) := (Stays.refl (fun b => b = c10) h).put (c := c10) (.inl rfl) hs.fit _
  refine ⟨hs.v.stays st n1.symm n2.symm n4.symm (fun t h1 h2 => hs.v.dk.tokne e t h1 h2.symm), st.keep _ _ hs.k n3.symm, ?_, hs.ne, hs.fit.put _ (hs.fit.lt e)⟩
  have hg := hs.gr
  cases ws with
  | tok t =>
    refine st.keep _ _ hg ?_
    intro q
    subst q
    have : h.blk t = some (.tok sg.l.length) := hg
    rw [e] at this; cases this
  | nl => exact hg
  | ex => trivial
  | ro => exact hg.elim
theorem puts_step (p : PIn bv bd bl sp c3 c10 log gen st base num j h w ws w10 d steps sg) {u : Own} {l : List Fr} (hj : j < l.length) (h40 : l.length ≤ 40) (h900 : ∀ f ∈ l, f.2.length ≤ 900) (hnum : num < 2) {q nn : Nat} (hq : 1000 ≤ q) :
    ∃ h' w' ws' w10' d' steps' sg', PIn bv bd bl sp c3 c10 log gen st base num (j + 1) h' w' ws' w10' d' steps' sg' ∧ K3 bv bd sp (h.put c10 (.cells [])) (h'.put c10 (.cells [])) ∧
      ∀ again0, s5_l0 (run t5.get q) nn again0 (.int .i64 num) (.ptr c3 0) (.ptr bv 0) (.ptr sp 0) (.int .i64 0) (.ptr c10 0) (.sl u 2 (l.map frV)) (.int .i64 l.length) (.int .i64 j) h = again0 [.int .i64 (j + 1 : Nat)] h' := by
  have hp := h900 l[j] (List.getElem_mem hj)
  have hwa := p.wa
  have hstp := p.stp
  obtain ⟨H1, hH1⟩ : ∃ H, (h.add (.cells [.int .i64 0, .str []])).put h.next (.cells [.int .i64 l[j].1, .str l[j].2]) = H := ⟨_, rfl⟩
  have u1 : Up h H1 := hH1 ▸ ((Up.refl p.s.fit).add _).put p.s.fit (Nat.le_refl _) (Nat.lt_succ_self _) _
  have k12 : H1.blk h.next = some (.cells [.int .i64 l[j].1, .str l[j].2]) := by rw [← hH1]; exact blk_put_same _ _
  have p1 := p.up u1
  obtain ⟨M, hM⟩ : ∃ M, sg.made (d.sec (1 + (2 + 16 * num))) = M := ⟨_, rfl⟩
  have ok := p.ok
  have pn := p.num
  obtain ⟨ws', w', h2, d', steps', ea, sg2, kk, hx2, hlies, hw2, hs2, -⟩ := t5_append p1.s p.sh (m := q) (fr := l[j]) (by omega) (by omega) (b0 := 1 + (2 + 16 * num)) (by rw [pn]) rfl ok (by decide) (by decide) (by rw [pn]; omega) (by omega) (by omega)
  rw [hM] at ea sg2 hx2
  have ne10 := p1.ne10
  have ne3 := p1.ne3
  have k12' := kk.keep _ _ k12 (by have := p.s.fit.lt p.s.v.kv; omega) (by have := p.s.fit.lt p.s.v.dk.k; omega) (by have := p.s.fit.lt p.s.k; omega)
  have k10' := kk.keep _ _ p1.k10 ne10.1 ne10.2.1 ne10.2.2.1
  have k3' := kk.keep _ _ p1.k3 ne3.1 ne3.2.1 ne3.2.2.1
  rw [hM] at k10' ok
  have hle : M.l.length < M.e := by rw [← hM]; exact p.le
  obtain ⟨ok', le', e1, e2, e3, e4⟩ := appM_ok ok hle (f := l[j])
  obtain ⟨M', at_, er, hA⟩ : ∃ M' at_ er, appM M l[j] = (M', at_, er) := ⟨_, _, _, rfl⟩
  have er' : run t5.get q 17 [madeV w10 M, frV l[j]] h2 = some (appV (if (appM M l[j]).2.2 = 0 then .ro else w10) (appM M l[j]), h2) := by rw [t5_r17 (by omega)]; exact p_append ok p.pw (by omega)
  rw [hA] at ea sg2 hx2 er' ok' le' e1 e2 e3 e4
  obtain ⟨w10', hw10⟩ : ∃ w', (if er = 0 then Own.ro else w10) = w' := ⟨_, rfl⟩
  have pw' : pureV (.sl w10' 2 []) = true := by rw [← hw10]; split; · rfl
                                                · exact p.pw
  simp only [hw10] at er'
  have al : (madeC w10' M' ++ [Val.int .i64 at_, Val.int .i64 er]).length = 24 := by simp [madeC_len _ ok'.x]
  obtain ⟨H3, hH3⟩ : ∃ H, (h2.add (.cells z24)).put h2.next (.cells (madeC w10' M' ++ [.int .i64 at_, .int .i64 er])) = H := ⟨_, rfl⟩
  have u3 : Up h2 H3 := hH3 ▸ ((Up.refl sg2.fit).add _).put sg2.fit (Nat.le_refl _) (Nat.lt_succ_self _) _
  have k15 : H3.blk h2.next = some (.cells (madeC w10' M' ++ [.int .i64 at_, .int .i64 er])) := by rw [← hH3]; exact blk_put_same _ _
  have sg3 := sg2.up u3
  have k10'' := u3.keep _ _ k10'
  obtain ⟨H4, hH4⟩ : ∃ H, H3.put c10 (.cells (madeC w10' M')) = H := ⟨_, rfl⟩
  have sg4 : SegSt H4 bv bd bl w' 1 34 steps' d' sp ws' (sg.of M') := hH4 ▸ sg3.put10 k10'' ne10.1 ne10.2.1 ne10.2.2.1 ne10.2.2.2
  have k10_4 : H4.blk c10 = some (.cells (madeC w10' M')) := by rw [← hH4]; exact blk_put_same _ _
  have k3_4 : H4.blk c3 = some (.cells [.int .i64 log, .int .u32 gen, .int .u32 st, .int .i64 base]) := by rw [← hH4, blk_put_ne _ ne3.2.2.2]; exact u3.keep _ _ k3'
  obtain ⟨h5, e5, u5⟩ := t5_read sg4.v sg4.fit (num := num) (m := q) (by omega) (by decide) (by omega)
  rw [hx2] at e5
  obtain ⟨H6, hH6⟩ : ∃ H, (h5.add (.cells z17)).put h5.next (.cells (secC M'.x ++ [.bool true])) = H := ⟨_, rfl⟩
  have u6 : Up h5 H6 := hH6 ▸ ((Up.refl u5.fit).add _).put u5.fit (Nat.le_refl _) (Nat.lt_succ_self _) _
  have k16 : H6.blk h5.next = some (.cells (secC M'.x ++ [.bool true])) := by rw [← hH6]; exact blk_put_same _ _
  have u56 := u5.trans u6
  have sg6 := sg4.up u56
  have k10_6 := u56.keep _ _ k10_4
  have xl := ok'.x
  have sl : (secC M'.x ++ [Val.bool true]).length = 17 := by simp [secC_len, xl]
  have hmk : (sg.of M').made (d'.sec (1 + (2 + 16 * num))) = M' := by
    rw [hx2]
    have a1 : M.log = sg.log := by rw [← hM]; rfl
    have a2 : M.gen = sg.gen := by rw [← hM]; rfl
    have a3 : M.st = sg.st := by rw [← hM]; rfl
    have a4 : M.base = sg.base := by rw [← hM]; rfl
    obtain ⟨q1, q2, q3, q4, q5, q6, q7⟩ := M'
    simp only [Sg.of, Sg.made] at *
    subst e1 e2 e3 e4
    rw [a1, a2, a3, a4]
  refine ⟨H6, w', ws', w10', d', steps', sg.of M', ⟨sg6, u56.keep _ _ k3_4, ?_, pw', ?_, le', p.sh, p.num, p.log, p.gen, p.st, p.base, by omega, by omega⟩, ?_, fun again0 => ?_⟩
  · rw [hmk]; exact k10_6
  · rw [hmk]; exact ok'
  · refine ⟨fun b c e n1 n2 n3 => ?_, ?_⟩
    · by_cases hb : b = c10
      · subst hb; rw [blk_put_same] at e ⊢; exact e
      · rw [blk_put_ne _ hb] at e ⊢
        refine u56.keep _ _ ?_
        rw [← hH4, blk_put_ne _ hb]
        exact u3.keep _ _ (kk.keep _ _ (u1.keep _ _ e) n1 n2 n3)
    · have n4 : H4.next = H3.next := by rw [← hH4]; rfl
      have := u1.nx
      have := kk.nx
      have := u3.nx
      have := u56.nx
      show h.next ≤ H6.next
      omega
  · have g1 : icmp .lt (j : Int) (l.length : Int) = true := decide_eq_true (by omega)
    have x1 : ∀ K, ixsC 2 (.sl u 2 (l.map frV)) (.int .i64 (j : Int)) K = K (.ep [.int .i64 l[j].1, .str l[j].2]) := fun K => ixsC_sl (v := frV l[j]) (by rw [List.getElem?_map, List.getElem?_eq_getElem hj]; rfl)
    have x2 : ∀ K, ldC true 2 (.ep [.int .i64 l[j].1, .str l[j].2]) h K = K (.agg [.int .i64 l[j].1, .str l[j].2]) := fun K => rfl
    have s2 : ∀ K, stC 2 (.ptr h.next 0) (.agg [.int .i64 l[j].1, .str l[j].2]) (h.add (.cells [.int .i64 0, .str []])) K = K H1 := fun K => by rw [← hH1]; exact st_all (n := 2) (blk_add_same _) rfl rfl K
    have l12 : ∀ K, ldC true 2 (.ptr h.next 0) H1 K = K (frV l[j]) := fun K => ld_all k12 rfl K
    have l12' : ∀ K, ldC true 2 (.ptr h.next 0) h2 K = K (frV l[j]) := fun K => ld_all k12' rfl K
    have l10 : ∀ K, ldC true 22 (.ptr c10 0) h2 K = K (madeV w10 M) := fun K => ld_all k10' (madeC_len _ ok.x) K
    have hz : [Val.int .i64 0, .int .u32 0, .int .u32 0, .int .i64 0, .sl .nl 2 [], .int .i64 0, .str [], .str [], .str [], .str [], .str [], .str [], .str [], .str [], .str [], .str [], .str [], .str [], .str [], .str [], .str [], .str [], .int .i64 0, .int .i64 0] = z24 := rfl
    have hz17 : [Val.str [], .str [], .str [], .str [], .str [], .str [], .str [], .str [], .str [], .str [], .str [], .str [], .str [], .str [], .str [], .str [], .bool false] = z17 := rfl
    have s24 : ∀ K, stC 24 (.ptr h2.next 0) (appV w10' (M', at_, er)) (h2.add (.cells z24)) K = K H3 := fun K => by rw [← hH3]; exact st_all (n := 24) (blk_add_same _) rfl al K
    have d22 : (madeC w10' M' ++ [Val.int .i64 at_, Val.int .i64 er]).drop 22 = [.int .i64 at_, .int .i64 er] := List.drop_left' (madeC_len _ xl)
    have d23 : (madeC w10' M' ++ [Val.int .i64 at_, Val.int .i64 er]).drop 23 = [.int .i64 er] := by
      rw [show (23 : Nat) = 22 + 1 from rfl, ← List.drop_drop, d22]; rfl
    have l23 : ∀ K, ldC false 1 (.ptr h2.next 23) H3 K = K (.int .i64 er) := fun K => by rw [ldC_p k15 (by omega), d23]; rfl
    have l22 : ∀ K, ldC false 1 (.ptr h2.next 22) H3 K = K (.int .i64 at_) := fun K => by rw [ldC_p k15 (by omega), d22]; rfl
    have lM : ∀ K, ldC true 22 (.ptr h2.next 0) H3 K = K (madeV w10' M') := fun K => by
      rw [ldC_p k15 (by omega), List.drop_zero, List.take_left' (madeC_len _ xl)]; rfl
    have g2 : icmp .ne (er : Int) (er : Int) = false := by rw [icmp_ne]; exact decide_eq_false (by simp)
    have g3 : icmp .ne (at_ : Int) (at_ : Int) = false := by rw [icmp_ne]; exact decide_eq_false (by simp)
    have s10 : ∀ K, stC 22 (.ptr c10 0) (madeV w10' M') H3 K = K H4 := fun K => by rw [← hH4]; exact st_all (n := 22) k10'' (madeC_len _ ok.x) (madeC_len _ xl) K
    have s17 : ∀ K, stC 17 (.ptr h5.next 0) (.agg (secC M'.x ++ [.bool true])) (h5.add (.cells z17)) K = K H6 := fun K => by rw [← hH6]; exact st_all (n := 17) (blk_add_same _) rfl sl K
    have l16b : ∀ K, ldC false 1 (.ptr h5.next 16) H6 K = K (.bool true) := fun K => by
      rw [ldC_p k16 (by omega), List.drop_left' (by rw [secC_len, xl])]; rfl
    have l16 : ∀ K, ldC true 16 (.ptr h5.next 0) H6 K = K (.agg (secC M'.x)) := fun K => by
      rw [ldC_p k16 (by omega), List.drop_zero, List.take_left' (by rw [secC_len, xl])]; rfl
    have lx : ∀ K, ldC true 16 (.ptr c10 6) H6 K = K (.agg (secC M'.x)) := fun K => by
      rw [ldC_p k10_6 (by rw [madeC_len _ xl]; decide)]
      have : ((madeC w10' M').drop 6).take 16 = secC M'.x := by
        have : (madeC w10' M').drop 6 = secC M'.x := rfl
        rw [this, List.take_of_length_le (by rw [secC_len, xl]; decide)]
      rw [this]; rfl
    have le5 : ∀ K, ldC false 1 (.ptr c10 5) H6 K = K (.int .i64 M'.e) := fun K => by rw [ldC_p k10_6 (by rw [madeC_len _ xl]; decide)]; rfl
    have ll4 : ∀ K, ldC false 1 (.ptr c10 4) H6 K = K (.sl w10' 2 (M'.l.map frV)) := fun K => by rw [ldC_p k10_6 (by rw [madeC_len _ xl]; decide)]; rfl
    have ee : run t5.get q 27 [.ptr sp 0] H6 = some (.int .i64 M'.e, H6) := t5_end sg6 (by omega)
    have el : run t5.get q 28 [.ptr sp 0] H6 = some (.int .i64 M'.l.length, H6) := t5_len sg6 (by omega)
    have g4 : icmp .ne (M'.e : Int) (M'.e : Int) = false := by rw [icmp_ne]; exact decide_eq_false (by simp)
    have g5 : icmp .ne (M'.l.length : Int) (M'.l.length : Int) = false := by rw [icmp_ne]; exact decide_eq_false (by simp)
    have a1 : IntKind.i64.wrap ((j : Int) + 1) = ((j + 1 : Nat) : Int) := i64s (by omega)
    have cs := fun K => ceaC_sec xl true K
    simp only [s5_l0, cmC_int, g1, cnd_t, x1, x2, allocC_e, s2, l12, clC_of ea, exC_0, exC_1, l10, l12', clC_of er', hz, s24, faC_p, Nat.zero_add, Nat.add_zero, l23, g2, gdC_ff, elim_some, l22, g3, pickC_f, cnd_f, lM, s10, clC_of e5, hz17, s17, l16b, notC_b, Bool.not_true, l16, lx, cs, Bool.bne_true, le5, clC_of ee, eqv_int, cond_true, g4, ll4, lenlC_s, List.length_map, clC_of el, eqv_sl, g5, biC_add, a1]
 end
end Go.AM.T
set_option maxRecDepth 100000
set_option linter.unusedVariables false
set_option linter.unusedSimpArgs false
namespace Go.AM.T
open Go Go.AM
theorem t5_put {m : Nat} (hm : 0 < m) (h : Heap) : run t5.get m 14 [] h = some (.bool true, h) := by
  rw [t5_r14 hm]; exact sumF_of (ys := []) rfl rfl
theorem ceaC_h (a b c d : Int) (ne : Bool) (K : Val → R) : ceaC [.i, .i, .i, .i] ne (hV a b c d) (hV a b c d) K = K (.bool (true != ne)) := by
  have : eqks [.i, .i, .i, .i] [.int .i64 a, .int .u32 b, .int .u32 c, .int .i64 d] [.int .i64 a, .int .u32 b, .int .u32 c, .int .i64 d] = some true := by
    simp [eqks, eqk, IntKind.toNat]
  simp only [ceaC, hV, this]
section
variable {bv bd bl sp c3 c10 log gen st base num j : Nat} {h : Heap} {w ws w10 : Own} {d : Dk} {steps : Nat} {sg : Sg}
theorem puts_end (p : PIn bv bd bl sp c3 c10 log gen st base num j h w ws w10 d steps sg) {u : Own} {l : List Fr} {q nn : Nat} (hq : 1000 ≤ q) (again0 : List Val → Heap → R) :
    ∃ h', s5_l0 (run t5.get q) nn again0 (.int .i64 num) (.ptr c3 0) (.ptr bv 0) (.ptr sp 0) (.int .i64 0) (.ptr c10 0) (.sl u 2 (l.map frV)) (.int .i64 l.length) (.int .i64 l.length) h = some (.bool true, h') := by
  have ne10 := p.ne10
  have ne3 := p.ne3
  have hlen := p.ok.len
  have hlen' : sg.l.length < 20 := hlen
  have pn := p.num
  obtain ⟨h1, e1, s1, k1⟩ := t5_seal p.s (m := q) (by omega)
  have q10 := k1.keep _ _ p.k10 ne10.1 ne10.2.1 ne10.2.2.1
  have q3 := k1.keep _ _ p.k3 ne3.1 ne3.2.1 ne3.2.2.1
  have e2 := t5_append_shut s1 rfl (m := q) (by omega) (fr := (1, []))
  obtain ⟨H2, hH2⟩ : ∃ H, h1.add (.cells [.int .i64 ((1 : Int), ([] : List UInt8)).1, .str ((1 : Int), ([] : List UInt8)).2]) = H := ⟨_, rfl⟩
  rw [hH2] at e2
  have u2 : Up h1 H2 := hH2 ▸ (Up.refl s1.fit).add _
  have s2 := s1.up u2
  have e3 := t5_sealed s2 (m := q) (by omega)
  obtain ⟨u', H3, e4, u3⟩ := t5_frames s2 (m := q) (by show sg.l.length ≤ 1000; omega) (by omega)
  have s3 := s2.up u3
  have e5 : run t5.get q 25 [.sl u' 2 (sg.l.map frV), .sl w10 2 (sg.l.map frV)] H3 = some (.bool true, H3) := by
    rw [t5_r25 (by omega), p_same (by omega) (by omega)]; simp
  obtain ⟨H4, e6, u4⟩ := t5_header s3 (m := q) (by omega)
  have s4 := s3.up u4
  have e7 := t5_number s4 (m := q) (by omega)
  have r10 := u2.keep _ _ q10
  have r10' := u3.keep _ _ r10
  have r3 := (u2.trans u3).keep _ _ q3
  have r3' := u4.keep _ _ r3
  refine ⟨H4, ?_⟩
  have g1 : icmp .lt (l.length : Int) (l.length : Int) = false := decide_eq_false (by omega)
  have ag : ∀ K, aggC [.int .i64 0, .str []] [(0, 1, (.int .i64 1 : Val))] K = K (frV ((1 : Int), ([] : List UInt8))) := fun K => rfl
  have g2 : icmp .eq (0 : Int) 0 = true := rfl
  have g3 : icmp .eq (39 : Int) 39 = true := rfl
  have ll : ∀ K, ldC false 1 (.ptr c10 4) H2 K = K (.sl w10 2 (sg.l.map frV)) := fun K => by rw [ldC_p r10 (by rw [madeC_len _ p.ok.x]; decide)]; rfl
  have ll' : ∀ K, ldC false 1 (.ptr c10 4) H3 K = K (.sl w10 2 (sg.l.map frV)) := fun K => by rw [ldC_p r10' (by rw [madeC_len _ p.ok.x]; decide)]; rfl
  have lh : ∀ K, ldC true 4 (.ptr c3 0) H3 K = K (hV log gen st base) := fun K => ld_all (n := 4) r3 rfl K
  have lh' : ∀ K, ldC true 4 (.ptr c3 0) H4 K = K (hV log gen st base) := fun K => ld_all (n := 4) r3' rfl K
  have e6' : run t5.get q 24 [.ptr sp 0] H3 = some (hV log gen st base, H4) := by
    have := e6
    simp only [p.log, p.gen, p.st, p.base] at this
    exact this
  have e7' : run t5.get q 34 [.ptr sp 0] H4 = some (.int .i64 num, H4) := by
    have := e7
    simp only [pn] at this
    exact this
  have g4 : icmp .eq (num : Int) (num : Int) = true := by rw [icmp_eq]; exact decide_eq_true rfl
  have e8 := t5_put (m := q) (by omega) H4
  have ch := fun K => ceaC_h log gen st base false K
  simp only [s5_l0, cmC_int, g1, cnd_f, clC_of e1, ag, clC_of e2, exC_0, exC_1, g2, gdC_tt, elim_some, g3, pickC_t, clC_of e3, faC_p, Nat.zero_add, ll, clC_of e4, ll', eqv_sl, cond_true, clC_of e5, lh, clC_of e6', lh', eqv_h, ch, Bool.bne_false, clC_of e7', g4, clC_of e8]
theorem puts_loop {u : Own} {l : List Fr} (h40 : l.length ≤ 40) (h900 : ∀ f ∈ l, f.2.length ≤ 900) (hnum : num < 2) {q nn : Nat} (hq : 1000 ≤ q) :
    ∀ (k j : Nat), j + k = l.length → ∀ (m : Nat), k < m → ∀ (h : Heap) (w ws w10 : Own) (d : Dk) (steps : Nat) (sg : Sg), PIn bv bd bl sp c3 c10 log gen st base num j h w ws w10 d steps sg →
    ∃ h', iter m (fun again0 xs h => s5_l0 (run t5.get q) nn again0 (.int .i64 num) (.ptr c3 0) (.ptr bv 0) (.ptr sp 0) (.int .i64 0) (.ptr c10 0) (.sl u 2 (l.map frV)) (.int .i64 l.length) (getN xs 0) h) [.int .i64 j] h = some (.bool true, h')
  | 0, j, hj, m, hm, h, w, ws, w10, d, steps, sg, p => by
    obtain ⟨m, rfl⟩ : ∃ q, m = q + 1 := ⟨m - 1, by omega⟩
    have : j = l.length := by omega
    subst this
    rw [iter_succ]
    exact puts_end p hq _
  | k + 1, j, hj, m, hm, h, w, ws, w10, d, steps, sg, p => by
    obtain ⟨m, rfl⟩ : ∃ q, m = q + 1 := ⟨m - 1, by omega⟩
    obtain ⟨h', w', ws', w10', d', steps', sg', p', -, e⟩ := puts_step p (u := u) (l := l) (by omega) h40 h900 hnum hq (nn := nn)
    obtain ⟨h2, ih⟩ := puts_loop h40 h900 hnum hq k (j + 1) (by omega) m (by omega) h' w' ws' w10' d' steps' sg' p'
    refine ⟨h2, ?_⟩
    rw [iter_succ, getN_0, e]
    exact ih
 end
theorem law_puts {log gen st base : Int} (hg : 0 ≤ gen ∧ gen < 4294967296) (hst : 0 ≤ st ∧ st < 4294967296) {u : Own} {l : List Fr} {k : Int} :
    ∃ n h', run t5.get n 5 [hV log gen st base, .sl u 2 (l.map frV), .int .i64 k] heap0 = some (.bool true, h') := by
  obtain ⟨gen, rfl⟩ := Int.eq_ofNat_of_zero_le hg.1
  obtain ⟨st, rfl⟩ := Int.eq_ofNat_of_zero_le hst.1
  obtain ⟨m, hm0⟩ : ∃ m : Nat, m = 1999 := ⟨_, rfl⟩
  obtain ⟨H1, hH1⟩ : ∃ H, heap0.add (.cells [.int .i64 log, .int .u32 gen, .int .u32 st, .int .i64 base]) = H := ⟨_, rfl⟩
  have f1 : Fit H1 := hH1 ▸ Fit.zero.add _
  have k0 : H1.blk 0 = some (.cells [.int .i64 log, .int .u32 gen, .int .u32 st, .int .i64 base]) := by rw [← hH1]; exact blk_add_same (h := heap0) _
  have bx : ∀ K, boxC 4 (hV log gen st base) heap0 K = K (.ptr 0 0) H1 := fun K => by rw [← hH1]; exact boxC_e rfl
  obtain ⟨H2, e2, u2⟩ := t5_large f1 (m := m) (u := u) (l := l) (by omega)
  have k02 := u2.keep _ _ k0
  refine ⟨m + 1, ?_⟩
  rw [t5_r5 (by omega), Nat.add_sub_cancel]
  show ∃ h', s5 (run t5.get m) m (hV log gen st base) (.sl u 2 (l.map frV)) (.int .i64 k) heap0 = some (.bool true, h')
  cases hL : largeM l with
  | true =>
    rw [hL] at e2
    have e3 := t5_put (m := m) (by omega) H2
    refine ⟨H2, ?_⟩
    simp only [s5, bx, clC_of e2, cnd_t, clC_of e3]
  | false =>
    rw [hL] at e2
    obtain ⟨bv, bd, bl, H3, e3, hv3, u3, nb1, nb2, nb3⟩ := t5_fresh u2.fit (m := m) (by omega)
    have k03 := u3.keep _ _ k02
    have lh3 : ∀ K, ldC true 4 (.ptr 0 0) H3 K = K (hV log gen st base) := fun K => ld_all (n := 4) k03 rfl K
    have h40 : l.length ≤ 40 ∧ ∀ f ∈ l, f.2.length ≤ 900 := by
      unfold largeM at hL
      simp only [Bool.or_eq_false_iff, decide_eq_false_iff_not, List.any_eq_false, decide_eq_true_eq] at hL
      exact ⟨by omega, fun f hf => by have := hL.2 f hf; omega⟩
    have g20 : icmp .eq (20 : Int) 20 = true := rfl
    have g11 : icmp .eq (1 : Int) 1 = true := rfl
    have cn : ∀ K, ceC .p false .nilp .nilp K = K (.bool true) := fun K => rfl
    by_cases hr : k < 0 ∨ (((34 - 2) / 16 : Nat) : Int) ≤ k
    · have e4 := t5_create_range hv3 u3.fit (m := m) (by omega) (by decide) (by decide) (k := k) (a := log) (b := gen) (c := st) (e := base) hr
      obtain ⟨H4, hH4⟩ : ∃ H, H3.add (.cells [.int .i64 log, .int .u32 gen, .int .u32 st, .int .i64 base]) = H := ⟨_, rfl⟩
      rw [hH4] at e4
      have e5 := t5_put (m := m) (by omega) H4
      refine ⟨H4, ?_⟩
      by_cases c1 : k < 0
      · have g1 : icmp .lt k 0 = true := decide_eq_true c1
        simp only [s5, bx, clC_of e2, cnd_f, clC_of e3, lh3, clC_of e4, exC_0, exC_1, cmC_int, g1, gdC_tf, gdC_u, pickC_t, cnd_t, g20, gdC_tt, elim_some, cn, clC_of e5]
      · have g1 : icmp .lt k 0 = false := decide_eq_false c1
        have g2 : icmp .gt k 1 = true := decide_eq_true (by omega)
        simp only [s5, bx, clC_of e2, cnd_f, clC_of e3, lh3, clC_of e4, exC_0, exC_1, cmC_int, g1, gdC_ff, elim_some, g2, pickC_f, pickC_t, cnd_t, g20, gdC_tt, cn, clC_of e5]
    · obtain ⟨k, rfl⟩ := Int.eq_ofNat_of_zero_le (show 0 ≤ k by omega)
      have hk : k < (34 - 2) / 16 := by omega
      have hk2 : k < 2 := by omega
      have g1 : icmp .lt (k : Int) 0 = false := by rw [icmp_lt]; exact decide_eq_false (by omega)
      have g2 : icmp .gt (k : Int) 1 = false := decide_eq_false (by omega)
      cases hmay : mayH log base with
      | false =>
        have e4 := t5_create_arg hv3 u3.fit (m := m) (by omega) (by decide) (by decide) (k := k) (log := log) (base := base) hk hmay (by omega) (by omega) (gen := gen) (st := st)
        obtain ⟨H4, hH4⟩ : ∃ H, H3.add (.cells [.int .i64 log, .int .u32 gen, .int .u32 st, .int .i64 base]) = H := ⟨_, rfl⟩
        rw [hH4] at e4
        have u4 : Up H3 H4 := hH4 ▸ (Up.refl u3.fit).add _
        have k04 := u4.keep _ _ k03
        have lh4 : ∀ K, ldC true 4 (.ptr 0 0) H4 K = K (hV log gen st base) := fun K => ld_all (n := 4) k04 rfl K
        obtain ⟨H5, e5, u5⟩ := t5_ref (log := log) (gen := gen) (st := st) (base := base) u4.fit (m := m) (by omega)
        have e6 : run t5.get m 12 [hV log gen st base] H5 = some (.bool (mayH log base), H5) := by rw [t5_r12 (by omega)]; exact p_may
        rw [hmay] at e6
        have e7 := t5_put (m := m) (by omega) H5
        refine ⟨H5, ?_⟩
        simp only [s5, bx, clC_of e2, cnd_f, clC_of e3, lh3, clC_of e4, exC_0, exC_1, cmC_int, g1, gdC_ff, elim_some, g2, pickC_f, pickC_t, cnd_t, lh4, clC_of e5, clC_of e6, notC_b, Bool.not_false, g11, gdC_tt, cn, clC_of e7]
      | true =>
        have hm' := hmay
        simp only [mayH, Bool.and_eq_true, decide_eq_true_eq] at hm'
        obtain ⟨log, rfl⟩ := Int.eq_ofNat_of_zero_le (show 0 ≤ log by omega)
        obtain ⟨base, rfl⟩ := Int.eq_ofNat_of_zero_le (show 0 ≤ base by omega)
        obtain ⟨sp, w4, H4, e4, f4, nsp, ks4, hv4, st4, o4⟩ := t5_create hv3 u3.fit (m := m) (by omega) (by decide) (by decide) (k := k) (log := log) (gen := gen) (st := st) (base := base) hk hmay (by omega) (by omega) (by decide) (by decide)
        have n0 : 0 < H3.next := u3.fit.lt k03
        have n02 : 0 < H2.next := u2.fit.lt k02
        have no0 : ¬ ownV bv bd .nl 0 := by
          rintro (e | e | ⟨t, ht, e⟩)
          · omega
          · omega
          · cases ht
        have k04 := st4.keep _ _ k03 no0
        have lh4 : ∀ K, ldC true 4 (.ptr 0 0) H4 K = K (hV log gen st base) := fun K => ld_all (n := 4) k04 rfl K
        obtain ⟨H5, e5, u5⟩ := t5_ref (log := log) (gen := gen) (st := st) (base := base) f4 (m := m) (by omega)
        have e6 : run t5.get m 12 [hV log gen st base] H5 = some (.bool (mayH log base), H5) := by rw [t5_r12 (by omega)]; exact p_may
        rw [hmay] at e6
        have k05 := u5.keep _ _ k04
        have lh5 : ∀ K, ldC true 4 (.ptr 0 0) H5 K = K (hV log gen st base) := fun K => ld_all (n := 4) k05 rfl K
        have e7 : run t5.get m 16 [] H5 = some (secV (List.replicate 16 (zeros 64)), H5) := by rw [t5_r16 (by omega)]; exact p_blank
        obtain ⟨H6, e8, u6⟩ := t5_ref (log := log) (gen := gen) (st := st) (base := base) u5.fit (m := m) (by omega)
        have e9 : run t5.get m 15 [secV (List.replicate 16 (zeros 64)), hV log gen st base] H6 = some (madeV .nl (createM log gen st base (List.replicate 16 (zeros 64))), H6) := by
          rw [t5_r15 (by omega)]; exact p_create (by omega) (by omega) (by omega) (by omega) (by simp)
        let sg : Sg := ⟨k, log, gen, st, base, [], 1, false⟩
        let d4 := Dk.writes st 1 (1 + (2 + 16 * k) + 0) (pieces (encH log gen st base)) d36
        have hsec : d4.sec (1 + (2 + 16 * k)) = putM st 1 0 (pieces (encH log gen st base)) (List.replicate 16 (zeros 64)) := by
          show (Dk.writes _ _ _ _ _).sec _ = _
          rw [sec_writes _ _ _ _ _ _ (by rw [pieces_encH]; decide), d36_sec (by omega)]; rfl
        have hmk : sg.made (d4.sec (1 + (2 + 16 * k))) = createM log gen st base (List.replicate 16 (zeros 64)) := by rw [hsec]; rfl
        have hok : (createM log gen st base (List.replicate 16 (zeros 64))).Ok := ⟨by show gen < _; omega, by show st < _; omega, by show log < _; omega, by show base < _; omega, Nat.zero_lt_succ _, Nat.le_refl 1, (show 1 ≤ 16 by decide), by simp [createM, putM_len]⟩
        obtain ⟨H7, hH7⟩ : ∃ H, (H6.add (.cells z22)).put H6.next (.cells (madeC .nl (createM log gen st base (List.replicate 16 (zeros 64))))) = H := ⟨_, rfl⟩
        have u7 : Up H6 H7 := hH7 ▸ ((Up.refl u6.fit).add _).put u6.fit (Nat.le_refl _) (Nat.lt_succ_self _) _
        have k7 : H7.blk H6.next = some (.cells (madeC .nl (createM log gen st base (List.replicate 16 (zeros 64))))) := by rw [← hH7]; exact blk_put_same _ _
        have u47 := (u5.trans u6).trans u7
        have ss : SegSt H4 bv bd bl w4 1 34 (0 + 1) d4 sp .nl sg := ⟨hv4, ks4, rfl, (fun t ht => by cases ht), f4⟩
        have p : PIn bv bd bl sp 0 H6.next log gen st base k 0 H7 w4 .nl .nl d4 (0 + 1) sg := ⟨ss.up u47, u47.keep _ _ k04, by rw [hmk]; exact k7, rfl, by rw [hmk]; exact hok, Nat.zero_lt_succ _, rfl, rfl, rfl, rfl, rfl, rfl, by show (Dk.writes _ _ _ _ _).waits.length ≤ _; rw [writes_waits, pieces_encH]; simp [d36], by omega⟩
        obtain ⟨h', el⟩ := puts_loop (u := u) (l := l) h40.1 h40.2 hk2 (q := m) (nn := m) (by omega) l.length 0 (by omega) m (by omega) H7 _ _ _ _ _ _ p
        refine ⟨h', ?_⟩
        have hz : [Val.int .i64 0, .int .u32 0, .int .u32 0, .int .i64 0, .sl .nl 2 [], .int .i64 0, .str [], .str [], .str [], .str [], .str [], .str [], .str [], .str [], .str [], .str [], .str [], .str [], .str [], .str [], .str [], .str []] = z22 := rfl
        have s22 : ∀ K, stC 22 (.ptr H6.next 0) (madeV .nl (createM log gen st base (List.replicate 16 (zeros 64)))) (H6.add (.cells z22)) K = K H7 := fun K => by rw [← hH7]; exact st_all (n := 22) (blk_add_same _) rfl (madeC_len _ hok.x) K
        simp only [s5, bx, clC_of e2, cnd_f, clC_of e3, lh3, clC_of e4, exC_0, exC_1, cmC_int, g1, gdC_ff, elim_some, g2, pickC_f, lh4, clC_of e5, clC_of e6, notC_b, Bool.not_true, clC_of e7, lh5, eqv_h, cond_true, clC_of e8]
        refine (clC_of e9).trans ?_
        simp only [hz, allocC_e, s22, lenlC_s, List.length_map]
        exact el
end Go.AM.T
set_option maxRecDepth 1000000
namespace Go.AM.T
open Go Go.AM
noncomputable abbrev Q : Program := Go.Proofs.Try.prog
theorem ok3 : okFn Q (drOk Q) 3 F3 = true := by kernel_rfl
theorem ok4 : okFn Q (drOk Q) 4 F4 = true := by kernel_rfl
theorem ok5 : okFn Q (drOk Q) 5 F5 = true := by kernel_rfl
theorem ok11 : okFn Q (drOk Q) 11 F11 = true := by kernel_rfl
theorem ok12 : okFn Q (drOk Q) 12 F12 = true := by kernel_rfl
theorem ok13 : okFn Q (drOk Q) 13 F13 = true := by kernel_rfl
theorem ok14 : okFn Q (drOk Q) 14 F14 = true := by kernel_rfl
theorem ok15 : okFn Q (drOk Q) 15 F15 = true := by kernel_rfl
theorem ok16 : okFn Q (drOk Q) 16 F16 = true := by kernel_rfl
theorem ok17 : okFn Q (drOk Q) 17 F17 = true := by kernel_rfl
theorem ok18 : okFn Q (drOk Q) 18 F18 = true := by kernel_rfl
theorem ok19 : okFn Q (drOk Q) 19 F19 = true := by kernel_rfl
theorem ok20 : okFn Q (drOk Q) 20 F20 = true := by kernel_rfl
theorem ok21 : okFn Q (drOk Q) 21 F21 = true := by kernel_rfl
theorem ok22 : okFn Q (drOk Q) 22 F22 = true := by kernel_rfl
theorem ok23 : okFn Q (drOk Q) 23 F23 = true := by kernel_rfl
theorem ok24 : okFn Q (drOk Q) 24 F24 = true := by kernel_rfl
theorem ok25 : okFn Q (drOk Q) 25 F25 = true := by kernel_rfl
theorem ok26 : okFn Q (drOk Q) 26 F26 = true := by kernel_rfl
theorem ok27 : okFn Q (drOk Q) 27 F27 = true := by kernel_rfl
theorem ok28 : okFn Q (drOk Q) 28 F28 = true := by kernel_rfl
theorem ok29 : okFn Q (drOk Q) 29 F29 = true := by kernel_rfl
theorem ok30 : okFn Q (drOk Q) 30 F30 = true := by kernel_rfl
theorem ok31 : okFn Q (drOk Q) 31 F31 = true := by kernel_rfl
theorem ok32 : okFn Q (drOk Q) 32 F32 = true := by kernel_rfl
theorem ok33 : okFn Q (drOk Q) 33 F33 = true := by kernel_rfl
theorem ok34 : okFn Q (drOk Q) 34 F34 = true := by kernel_rfl
theorem ok62 : okFn Q (drOk Q) 62 F62 = true := by kernel_rfl
theorem ok63 : okFn Q (drOk Q) 63 F63 = true := by kernel_rfl
theorem ok64 : okFn Q (drOk Q) 64 F64 = true := by kernel_rfl
theorem ok65 : okFn Q (drOk Q) 65 F65 = true := by kernel_rfl
theorem ok66 : okFn Q (drOk Q) 66 F66 = true := by kernel_rfl
theorem ok67 : okFn Q (drOk Q) 67 F67 = true := by kernel_rfl
theorem ok68 : okFn Q (drOk Q) 68 F68 = true := by kernel_rfl
theorem ok69 : okFn Q (drOk Q) 69 F69 = true := by kernel_rfl
theorem ok70 : okFn Q (drOk Q) 70 F70 = true := by kernel_rfl
theorem ok71 : okFn Q (drOk Q) 71 F71 = true := by kernel_rfl
theorem ok72 : okFn Q (drOk Q) 72 F72 = true := by kernel_rfl
theorem ok73 : okFn Q (drOk Q) 73 F73 = true := by kernel_rfl
theorem ok74 : okFn Q (drOk Q) 74 F74 = true := by kernel_rfl
theorem ok75 : okFn Q (drOk Q) 75 F75 = true := by kernel_rfl
theorem ok76 : okFn Q (drOk Q) 76 F76 = true := by kernel_rfl
theorem ok77 : okFn Q (drOk Q) 77 F77 = true := by kernel_rfl
theorem ok78 : okFn Q (drOk Q) 78 F78 = true := by kernel_rfl
theorem ok79 : okFn Q (drOk Q) 79 F79 = true := by kernel_rfl
theorem ok80 : okFn Q (drOk Q) 80 F80 = true := by kernel_rfl
theorem ok81 : okFn Q (drOk Q) 81 F81 = true := by kernel_rfl
theorem ok82 : okFn Q (drOk Q) 82 F82 = true := by kernel_rfl
theorem ok83 : okFn Q (drOk Q) 83 F83 = true := by kernel_rfl
theorem ok84 : okFn Q (drOk Q) 84 F84 = true := by kernel_rfl
theorem ok85 : okFn Q (drOk Q) 85 F85 = true := by kernel_rfl
theorem ok86 : okFn Q (drOk Q) 86 F86 = true := by kernel_rfl
theorem ok87 : okFn Q (drOk Q) 87 F87 = true := by kernel_rfl
theorem ok104 : okFn Q (drOk Q) 104 F104 = true := by kernel_rfl
theorem ok114 : okFn Q (drOk Q) 114 F114 = true := by kernel_rfl
theorem ok115 : okFn Q (drOk Q) 115 F115 = true := by kernel_rfl
theorem ok116 : okFn Q (drOk Q) 116 F116 = true := by kernel_rfl
theorem ok117 : okFn Q (drOk Q) 117 F117 = true := by kernel_rfl
theorem ok118 : okFn Q (drOk Q) 118 F118 = true := by kernel_rfl
theorem ok119 : okFn Q (drOk Q) 119 F119 = true := by kernel_rfl
theorem ok120 : okFn Q (drOk Q) 120 F120 = true := by kernel_rfl
theorem ok121 : okFn Q (drOk Q) 121 F121 = true := by kernel_rfl
theorem ok122 : okFn Q (drOk Q) 122 F122 = true := by kernel_rfl
theorem ok123 : okFn Q (drOk Q) 123 F123 = true := by kernel_rfl
theorem ok124 : okFn Q (drOk Q) 124 F124 = true := by kernel_rfl
theorem ok125 : okFn Q (drOk Q) 125 F125 = true := by kernel_rfl
theorem ok126 : okFn Q (drOk Q) 126 F126 = true := by kernel_rfl
theorem ok127 : okFn Q (drOk Q) 127 F127 = true := by kernel_rfl
theorem ok129 : okFn Q (drOk Q) 129 F129 = true := by kernel_rfl
theorem ok130 : okFn Q (drOk Q) 130 F130 = true := by kernel_rfl
theorem ok131 : okFn Q (drOk Q) 131 F131 = true := by kernel_rfl
theorem ok132 : okFn Q (drOk Q) 132 F132 = true := by kernel_rfl
theorem ok133 : okFn Q (drOk Q) 133 F133 = true := by kernel_rfl
theorem ok134 : okFn Q (drOk Q) 134 F134 = true := by kernel_rfl
theorem ok135 : okFn Q (drOk Q) 135 F135 = true := by kernel_rfl
theorem ok153 : okFn Q (drOk Q) 153 F153 = true := by kernel_rfl
theorem ok154 : okFn Q (drOk Q) 154 F154 = true := by kernel_rfl
theorem ok155 : okFn Q (drOk Q) 155 F155 = true := by kernel_rfl
theorem ok156 : okFn Q (drOk Q) 156 F156 = true := by kernel_rfl
theorem ok157 : okFn Q (drOk Q) 157 F157 = true := by kernel_rfl
theorem ok158 : okFn Q (drOk Q) 158 F158 = true := by kernel_rfl
theorem ok159 : okFn Q (drOk Q) 159 F159 = true := by kernel_rfl
theorem ok160 : okFn Q (drOk Q) 160 F160 = true := by kernel_rfl
theorem ok161 : okFn Q (drOk Q) 161 F161 = true := by kernel_rfl
theorem ok171 : okFn Q (drOk Q) 171 F171 = true := by kernel_rfl
end Go.AM.T
namespace Go.Proofs
open Go.Shelf Go.RowKit
def Try.lays156_ren : Go.Shelf.Ren := ⟨fun | 156 => 128 | 165 => 138 | 166 => 139 | 169 => 141 | 240 => 165 | 241 => 166 | 276 => 172 | 277 => 173 | n => n, fun | 31 => 118 | 9 => 9 | 3 => 3 | 4 => 4 | 0 => 0 | 20 => 20 | 72 => 208 | 76 => 211 | 70 => 206 | 37 => 121 | 75 => 210 | 127 => 242 | 164 => 249 | 5 => 5 | 80 => 213 | n => n, fun | n => n⟩
theorem Try.lays156 : Go.Proofs.Lays.n156 Try.prog Try.lays156_ren := {
  mixed := by kernel_rfl
  f156 := Try.func128.trans (congrArg some (by kernel_rfl))
  f165 := Try.func138.trans (congrArg some (by kernel_rfl))
  f166 := Try.func139.trans (congrArg some (by kernel_rfl))
  f169 := Try.func141.trans (congrArg some (by kernel_rfl))
  f240 := Try.func165.trans (congrArg some (by kernel_rfl))
  f241 := Try.func166.trans (congrArg some (by kernel_rfl))
  f276 := Try.func172.trans (congrArg some (by kernel_rfl))
  f277 := Try.func173.trans (congrArg some (by kernel_rfl))
  t0 := Try.underlying0
  a0 := Try.isAgg0
  z0 := Try.sizeOf0
  v0 := Try.zeroValue0
  t3 := Try.underlying3
  a3 := Try.isAgg3
  z3 := Try.sizeOf3
  v3 := Try.zeroValue3
  t4 := Try.underlying4
  a4 := Try.isAgg4
  z4 := Try.sizeOf4
  v4 := Try.zeroValue4
  t9 := Try.underlying9
  a9 := Try.isAgg9
  z9 := Try.sizeOf9
  v9 := Try.zeroValue9
  t20 := Try.underlying20
  a20 := Try.isAgg20
  z20 := Try.sizeOf20
  v20 := Try.zeroValue20
  t31 := Try.underlying118
  a31 := Try.isAgg118
  z31 := Try.sizeOf118
  v31 := Try.zeroValue118
  t37 := Try.underlying121
  a37 := Try.isAgg121
  z37 := Try.sizeOf121
  v37 := Try.zeroValue121
  t70 := Try.underlying206
  a70 := Try.isAgg206
  z70 := Try.sizeOf206
  v70 := Try.zeroValue206
  t72 := Try.underlying208
  a72 := Try.isAgg208
  z72 := Try.sizeOf208
  v72 := Try.zeroValue208
  t75 := Try.underlying210
  a75 := Try.isAgg210
  z75 := Try.sizeOf210
  v75 := Try.zeroValue210
  t76 := Try.underlying211
  a76 := Try.isAgg211
  z76 := Try.sizeOf211
  v76 := Try.zeroValue211
  t127 := Try.underlying242
  a127 := Try.isAgg242
  z127 := Try.sizeOf242
  v127 := Try.zeroValue242
  t164 := Try.underlying249
  a164 := Try.isAgg249
  z164 := Try.sizeOf249
  v164 := Try.zeroValue249 }
theorem Try.Builder_Extra_156 : Builder.Extra Try.prog Try.lays156_ren := {
  sizeBuilder := by kernel_rfl
  liesBuilder := by kernel_rfl
  t5 := Try.underlying5
  a5 := Try.isAgg5
  z5 := Try.sizeOf5
  v5 := Try.zeroValue5
  infoByte := by kernel_rfl
  cellsByte := by kernel_rfl
  sizeByte := by kernel_rfl
  neB5 := by decide }
theorem Try.strings_Join_none (a : Option Addr) (c : Nat) (sep : ByteArray) (w : World) :
    Calls Try.prog 128 #[.slice a 0 c, .string sep] w fun e w' => e = .returned (.string ⟨#[]⟩) ∧ w' = w := Any.strings_Join_none Try.lays156 Try.Builder_Extra_156 a c sep w
theorem Try.strings_Join (bk o c : Nat) (xs : List ByteArray) (sep : ByteArray) (w : World) (hcells : ∀ (j : Nat) x, xs[j]? = some x → w.cell? ⟨bk, o + j, none⟩ = some (.string x)) (hbk : bk < w.heap.size) (hN : xs.length ≤ 140737488355328) (hcap : xs.length ≤ c) (hlen : (Lib.join (xs.map (·.data.toList)) sep.data.toList).length ≤ 140737488355328) :
    Calls Try.prog 128 #[.slice (some ⟨bk, o, none⟩) xs.length c, .string sep] w fun e w' => e = .returned (.string ⟨(Lib.join (xs.map (·.data.toList)) sep.data.toList).toArray⟩) ∧ Below w.heap.size w w' := Any.strings_Join Try.lays156 Try.Builder_Extra_156 bk o c xs sep w hcells hbk hN hcap hlen
def Try.lays105_ren : Go.Shelf.Ren := ⟨fun | 105 => 88 | 212 => 136 | 99 => 137 | 165 => 138 | 166 => 139 | 170 => 140 | 169 => 141 | 263 => 162 | 264 => 163 | 206 => 164 | 240 => 165 | 241 => 166 | 276 => 172 | 277 => 173 | n => n, fun | 9 => 9 | 3 => 3 | 4 => 4 | 20 => 20 | 0 => 0 | 46 => 202 | 109 => 203 | 5 => 5 | 72 => 208 | 76 => 211 | 51 => 22 | 146 => 238 | 53 => 172 | 148 => 240 | 70 => 206 | 37 => 121 | 75 => 210 | 127 => 242 | 164 => 249 | 80 => 213 | n => n, fun | n => n⟩
theorem Try.lays105 : Go.Proofs.Lays.n105 Try.prog Try.lays105_ren := {
  mixed := by kernel_rfl
  f99 := Try.func137.trans (congrArg some (by kernel_rfl))
  f105 := Try.func88.trans (congrArg some (by kernel_rfl))
  f165 := Try.func138.trans (congrArg some (by kernel_rfl))
  f166 := Try.func139.trans (congrArg some (by kernel_rfl))
  f169 := Try.func141.trans (congrArg some (by kernel_rfl))
  f170 := Try.func140.trans (congrArg some (by kernel_rfl))
  f206 := Try.func164.trans (congrArg some (by kernel_rfl))
  f212 := Try.func136.trans (congrArg some (by kernel_rfl))
  f240 := Try.func165.trans (congrArg some (by kernel_rfl))
  f241 := Try.func166.trans (congrArg some (by kernel_rfl))
  f263 := Try.func162.trans (congrArg some (by kernel_rfl))
  f264 := Try.func163.trans (congrArg some (by kernel_rfl))
  f276 := Try.func172.trans (congrArg some (by kernel_rfl))
  f277 := Try.func173.trans (congrArg some (by kernel_rfl))
  t0 := Try.underlying0
  a0 := Try.isAgg0
  z0 := Try.sizeOf0
  v0 := Try.zeroValue0
  t3 := Try.underlying3
  a3 := Try.isAgg3
  z3 := Try.sizeOf3
  v3 := Try.zeroValue3
  t4 := Try.underlying4
  a4 := Try.isAgg4
  z4 := Try.sizeOf4
  v4 := Try.zeroValue4
  t5 := Try.underlying5
  a5 := Try.isAgg5
  z5 := Try.sizeOf5
  v5 := Try.zeroValue5
  t9 := Try.underlying9
  a9 := Try.isAgg9
  z9 := Try.sizeOf9
  v9 := Try.zeroValue9
  t20 := Try.underlying20
  a20 := Try.isAgg20
  z20 := Try.sizeOf20
  v20 := Try.zeroValue20
  t37 := Try.underlying121
  a37 := Try.isAgg121
  z37 := Try.sizeOf121
  v37 := Try.zeroValue121
  t46 := Try.underlying202
  a46 := Try.isAgg202
  z46 := Try.sizeOf202
  v46 := Try.zeroValue202
  t51 := Try.underlying22
  a51 := Try.isAgg22
  z51 := Try.sizeOf22
  v51 := Try.zeroValue22
  t53 := Try.underlying172
  a53 := Try.isAgg172
  z53 := Try.sizeOf172
  v53 := Try.zeroValue172
  t70 := Try.underlying206
  a70 := Try.isAgg206
  z70 := Try.sizeOf206
  v70 := Try.zeroValue206
  t72 := Try.underlying208
  a72 := Try.isAgg208
  z72 := Try.sizeOf208
  v72 := Try.zeroValue208
  t75 := Try.underlying210
  a75 := Try.isAgg210
  z75 := Try.sizeOf210
  v75 := Try.zeroValue210
  t76 := Try.underlying211
  a76 := Try.isAgg211
  z76 := Try.sizeOf211
  v76 := Try.zeroValue211
  t109 := Try.underlying203
  a109 := Try.isAgg203
  z109 := Try.sizeOf203
  v109 := Try.zeroValue203
  t127 := Try.underlying242
  a127 := Try.isAgg242
  z127 := Try.sizeOf242
  v127 := Try.zeroValue242
  t146 := Try.underlying238
  a146 := Try.isAgg238
  z146 := Try.sizeOf238
  v146 := Try.zeroValue238
  t148 := Try.underlying240
  a148 := Try.isAgg240
  z148 := Try.sizeOf240
  v148 := Try.zeroValue240
  t164 := Try.underlying249
  a164 := Try.isAgg249
  z164 := Try.sizeOf249
  v164 := Try.zeroValue249 }
theorem Try.Builder_Extra_105 : Builder.Extra Try.prog Try.lays105_ren := {
  sizeBuilder := by kernel_rfl
  liesBuilder := by kernel_rfl
  t5 := Try.underlying5
  a5 := Try.isAgg5
  z5 := Try.sizeOf5
  v5 := Try.zeroValue5
  infoByte := by kernel_rfl
  cellsByte := by kernel_rfl
  sizeByte := by kernel_rfl
  neB5 := by decide }
theorem Try.strings_Repeat (s : ByteArray) (c : Nat) (w : World) (hc : c ≤ 9223372036854775807) (hlen : s.size * c ≤ 140737488355328) :
    Calls Try.prog 88 #[.string s, .int .i64 c] w fun e w' => e = .returned (.string ⟨(Lib.repeatL s.data.toList c).toArray⟩) ∧ Below w.heap.size w w' := Any.strings_Repeat Try.lays105 Try.Builder_Extra_105 s c w hc hlen
end Go.Proofs
set_option maxRecDepth 1000000
set_option linter.unusedVariables false
namespace Go.AM.T
open Go Go.AM
theorem mixedQ : Q.follows .mixedOrders = true := by kernel_rfl
theorem pr_repeat (N : Nat) : PrimOk Q N 88 pRepeat := prim_repeat (by kernel_rfl) fun s c w h1 h2 => Go.Proofs.Try.strings_Repeat s c w h1 h2
theorem pr_join (N : Nat) : PrimOk Q N 128 pJoin := prim_join (by kernel_rfl) (fun a c sep w => Go.Proofs.Try.strings_Join_none a c sep w) fun bk o c xs sep w h1 h2 h3 h4 h5 => Go.Proofs.Try.strings_Join bk o c xs sep w h1 h2 h3 h4 h5
theorem calls_of {t : TT} (h : ∀ N, t.All fun f fn => okFn Q (drOk Q) f fn = true ∨ ∃ F, fn = .prim F ∧ PrimOk Q N f F) (N n : Nat) : CallOk Q N (run t.get n) :=
  run_ok (fun call hc => draw_ok mixedQ hc) (t.ok (h N)) n
end Go.AM.T
set_option maxRecDepth 1000000
set_option linter.unusedVariables false
set_option linter.unusedSimpArgs false
namespace Go.AM.T
open Go Go.AM
theorem ok_t0 (N : Nat) : t0.All fun f fn => okFn Q (drOk Q) f fn = true ∨ ∃ F, fn = .prim F ∧ PrimOk Q N f F := ⟨⟨⟨.inl ok115, ⟨.inl ok116, .inl ok117⟩⟩, ⟨.inl ok134, ⟨.inl ok135, .inl ok154⟩⟩⟩, ⟨⟨.inl ok155, ⟨.inl ok157, .inl ok159⟩⟩, ⟨.inl ok160, ⟨.inl ok161, .inl ok171⟩⟩⟩⟩
theorem calls_t0 (N n : Nat) : CallOk Q N (run t0.get n) := calls_of ok_t0 N n
theorem cnd_some {b : Bool} {x v : Val} (h : (bif b then some x else none) = some v) : b = true ∧ x = v := by
  cases b with
  | false => cases h
  | true => cases h; exact ⟨rfl, rfl⟩
theorem cnd_some' {b : Bool} {x : Option Val} {v : Val} (h : (bif b then x else none) = some v) : b = true ∧ x = some v := by
  cases b with
  | false => cases h
  | true => exact ⟨rfl, h⟩
theorem ok_fixed (N : Nat) : PrimOk Q N 134 (sumF gFixed) := by
  refine sum_prim calls_t0 (by kernel_rfl) (fun args v hv => ?_) N
  unfold gFixed at hv
  split at hv
  · rename_i a n
    obtain ⟨hb, rfl⟩ := cnd_some hv
    simp only [Bool.and_eq_true, decide_eq_true_eq] at hb
    obtain ⟨⟨⟨h1, h2⟩, h3⟩, h4⟩ := hb
    obtain ⟨a, rfl⟩ := Int.eq_ofNat_of_zero_le h1
    obtain ⟨n, rfl⟩ := Int.eq_ofNat_of_zero_le (show 0 ≤ n by omega)
    obtain ⟨h', e⟩ := t0_fixed (m := 20) (n := n) (v := a) (by omega) (by omega) (by omega) (by simpa using h4) heap0
    exact ⟨rfl, rfl, 20, h', _, e, rfl⟩
  · cases hv
theorem ok_read (N : Nat) : PrimOk Q N 155 (sumF gRead) := by
  refine sum_prim calls_t0 (by kernel_rfl) (fun args v hv => ?_) N
  unfold gRead at hv
  split at hv
  · rename_i s
    obtain ⟨hb, rfl⟩ := cnd_some hv
    simp only [Bool.and_eq_true, decide_eq_true_eq] at hb
    exact ⟨rfl, rfl, 20, heap0, _, t0_read (by omega) hb.1 hb.2 heap0, rfl⟩
  · cases hv
theorem ok_crc (N : Nat) : PrimOk Q N 135 (sumF gCrc) := by
  refine sum_prim calls_t0 (by kernel_rfl) (fun args v hv => ?_) N
  unfold gCrc at hv
  split at hv
  · rename_i a s
    obtain ⟨hb, rfl⟩ := cnd_some hv
    simp only [Bool.and_eq_true, decide_eq_true_eq] at hb
    obtain ⟨⟨h1, h2⟩, h3⟩ := hb
    obtain ⟨a, rfl⟩ := Int.eq_ofNat_of_zero_le h1
    obtain ⟨h', e⟩ := t0_crc (m := s.length + 30) (b := a) (s := s) (by omega) (by omega) (by omega) heap0
    exact ⟨rfl, rfl, _, h', _, e, rfl⟩
  · cases hv
theorem ok_rcrc (N : Nat) : PrimOk Q N 117 (sumF gCrc) := by
  refine sum_prim calls_t0 (by kernel_rfl) (fun args v hv => ?_) N
  unfold gCrc at hv
  split at hv
  · rename_i a s
    obtain ⟨hb, rfl⟩ := cnd_some hv
    simp only [Bool.and_eq_true, decide_eq_true_eq] at hb
    obtain ⟨⟨h1, h2⟩, h3⟩ := hb
    obtain ⟨a, rfl⟩ := Int.eq_ofNat_of_zero_le h1
    exact ⟨rfl, rfl, _, _, _, t0_rcrc (m := s.length + 30) (b := a) (s := s) (by omega) (by omega) (by omega) heap0, rfl⟩
  · cases hv
theorem ok_all (N : Nat) : PrimOk Q N 157 (sumF gAll) := by
  refine sum_prim calls_t0 (by kernel_rfl) (fun args v hv => ?_) N
  unfold gAll at hv
  split at hv
  · rename_i w z l
    split at hv
    · rename_i xs hxs
      obtain ⟨hb, rfl⟩ := cnd_some hv
      simp only [Bool.and_eq_true, decide_eq_true_eq, List.all_eq_true] at hb
      obtain ⟨⟨⟨h1, h2⟩, h3⟩, h4⟩ := hb
      have hz := Nat.eq_of_beq_eq_true h1
      subst hz
      have hl := strsOf_some hxs
      subst hl
      obtain ⟨h', e⟩ := t0_all (m := 1000040) (w := w) (xs := xs) (fun x hx => by have := h3 x hx; omega) (by omega) (by omega) heap0
      refine ⟨?_, rfl, _, h', _, e, rfl⟩
      cases w with
      | tok t => cases h4
      | _ => simp [pureVs, pureV, pureVs_strs]
    · cases hv
  · cases hv
theorem ok_rfixed (N : Nat) : PrimOk Q N 116 (sumF gRFixed) := by
  refine sum_prim calls_t0 (by kernel_rfl) (fun args v hv => ?_) N
  unfold gRFixed at hv
  split at hv
  · rename_i a n
    obtain ⟨hb, rfl⟩ := cnd_some hv
    simp only [Bool.and_eq_true, decide_eq_true_eq] at hb
    obtain ⟨⟨⟨h1, h2⟩, h3⟩, h4⟩ := hb
    obtain ⟨a, rfl⟩ := Int.eq_ofNat_of_zero_le h1
    obtain ⟨n, rfl⟩ := Int.eq_ofNat_of_zero_le h3
    exact ⟨rfl, rfl, 20, _, _, t0_rfixed (n := n) (v := a) (by omega) (by omega) (by omega) heap0, rfl⟩
  · cases hv
theorem ok_rread (N : Nat) : PrimOk Q N 115 (sumF gRRead) := by
  refine sum_prim calls_t0 (by kernel_rfl) (fun args v hv => ?_) N
  unfold gRRead at hv
  split at hv
  · rename_i s
    obtain ⟨hb, rfl⟩ := cnd_some hv
    simp only [decide_eq_true_eq] at hb
    exact ⟨rfl, rfl, 20, heap0, _, t0_rread (by omega) hb heap0, rfl⟩
  · cases hv
end Go.AM.T
set_option maxRecDepth 1000000
set_option linter.unusedVariables false
set_option linter.unusedSimpArgs false
namespace Go.AM.T
open Go Go.AM
theorem hp_t1_134 (N : Nat) : PrimOk Q N 134 (sumF gFixed) := ok_fixed N
theorem hp_t1_155 (N : Nat) : PrimOk Q N 155 (sumF gRead) := ok_read N
theorem hp_t1_135 (N : Nat) : PrimOk Q N 135 (sumF gCrc) := ok_crc N
theorem hp_t1_157 (N : Nat) : PrimOk Q N 157 (sumF gAll) := ok_all N
theorem hp_t1_116 (N : Nat) : PrimOk Q N 116 (sumF gRFixed) := ok_rfixed N
theorem hp_t1_115 (N : Nat) : PrimOk Q N 115 (sumF gRRead) := ok_rread N
theorem hp_t1_117 (N : Nat) : PrimOk Q N 117 (sumF gCrc) := ok_rcrc N
theorem hp_t1_88 (N : Nat) : PrimOk Q N 88 pRepeat := pr_repeat N
theorem ok_t1 (N : Nat) : t1.All fun f fn => okFn Q (drOk Q) f fn = true ∨ ∃ F, fn = .prim F ∧ PrimOk Q N f F := ⟨⟨⟨⟨⟨.inl ok12, .inl ok25⟩, ⟨.inl ok63, .inl ok65⟩⟩, ⟨⟨.inl ok66, .inl ok67⟩, ⟨.inl ok68, .inl ok69⟩⟩⟩, ⟨⟨⟨.inl ok80, .inl ok81⟩, ⟨.inl ok83, .inl ok84⟩⟩, ⟨⟨.inl ok87, .inr ⟨_, rfl, hp_t1_88 N⟩⟩, ⟨.inl ok104, ⟨.inr ⟨_, rfl, hp_t1_115 N⟩, .inr ⟨_, rfl, hp_t1_116 N⟩⟩⟩⟩⟩⟩, ⟨⟨⟨⟨.inr ⟨_, rfl, hp_t1_117 N⟩, .inl ok118⟩, ⟨.inl ok119, .inl ok123⟩⟩, ⟨⟨.inl ok124, .inl ok126⟩, ⟨.inl ok127, ⟨.inl ok129, .inl ok130⟩⟩⟩⟩, ⟨⟨⟨.inl ok131, .inl ok132⟩, ⟨.inl ok133, .inr ⟨_, rfl, hp_t1_134 N⟩⟩⟩, ⟨⟨.inr ⟨_, rfl, hp_t1_135 N⟩, .inr ⟨_, rfl, hp_t1_155 N⟩⟩, ⟨.inl ok156, ⟨.inr ⟨_, rfl, hp_t1_157 N⟩, .inl ok158⟩⟩⟩⟩⟩⟩
theorem calls_t1 (N n : Nat) : CallOk Q N (run t1.get n) := calls_of ok_t1 N n
theorem ok_enc (N : Nat) : PrimOk Q N 83 (sumF gEnc) := by
  refine sum_prim calls_t1 (by kernel_rfl) (fun args v hv => ?_) N
  unfold gEnc at hv
  split at hv
  · rename_i st a k p
    obtain ⟨hb, hv⟩ := cnd_some' hv
    obtain ⟨st, rfl, h1⟩ := u32B_iff hb
    cases hc : (decide (k < 1) || decide (255 < k) || !okPlace a) with
    | true =>
      rw [hc] at hv; cases hv
      obtain ⟨h', e⟩ := t1_encode_bad (m := 9) (st := st) (a := a) (k := k) (p := p) (by omega) (by
        simp only [Bool.or_eq_true, decide_eq_true_eq, Bool.not_eq_true'] at hc
        rcases hc with (hc | hc) | hc
        · exact .inl hc
        · exact .inr (.inl hc)
        · exact .inr (.inr hc)) heap0
      exact ⟨rfl, rfl, _, h', _, e, rfl⟩
    | false =>
      rw [hc] at hv
      simp only [Bool.or_eq_false_iff, decide_eq_false_iff_not, Bool.not_eq_false'] at hc
      obtain ⟨⟨h2, h3⟩, h4⟩ := hc
      cases hd : decide (773 < p.length) with
      | true =>
        rw [hd] at hv; cases hv
        obtain ⟨h', e⟩ := t1_encode_long (m := 9) (st := st) (a := a) (k := k) (p := p) (by omega) (by omega) (by omega) h4 (by simpa using hd) heap0
        exact ⟨rfl, rfl, _, h', _, e, rfl⟩
      | false =>
        rw [hd] at hv; cases hv
        have h5 : p.length ≤ 773 := by simpa using hd
        obtain ⟨k, rfl⟩ := Int.eq_ofNat_of_zero_le (show 0 ≤ k by omega)
        obtain ⟨a, rfl⟩ := Int.eq_ofNat_of_zero_le (show 0 ≤ a by simp only [okPlace, Bool.and_eq_true, decide_eq_true_eq] at h4; omega)
        obtain ⟨h', e⟩ := t1_encode (m := 9) (st := st) (a := a) (k := k) (p := p) (by omega) h1 (by omega) (by omega) h4 h5 heap0
        exact ⟨rfl, rfl, _, h', _, e, rfl⟩
  · cases hv
theorem ok_dec (N : Nat) : PrimOk Q N 127 (sumF gDec) := by
  refine sum_prim calls_t1 (by kernel_rfl) (fun args v hv => ?_) N
  unfold gDec at hv
  split at hv
  · rename_i st a s
    obtain ⟨hb, rfl⟩ := cnd_some hv
    simp only [Bool.and_eq_true, decide_eq_true_eq] at hb
    obtain ⟨⟨h1, h2⟩, h3⟩ := hb
    obtain ⟨st, rfl, k1⟩ := u32B_iff h1
    obtain ⟨a, rfl⟩ := Int.eq_ofNat_of_zero_le (show 0 ≤ a by simp only [okPlace, Bool.and_eq_true, decide_eq_true_eq] at h2; omega)
    obtain ⟨h', e⟩ := t1_decode (m := 9) (st := st) (a := a) (s := s) (by omega) k1 h2 h3 heap0
    exact ⟨rfl, rfl, _, h', _, e, rfl⟩
  · cases hv
theorem pure_strs (xs : List (List UInt8)) : pureV (strs xs) = true := by
  cases xs with
  | nil => rfl
  | cons x xs => exact pureVs_strs (x :: xs)
theorem ok_pcs (N : Nat) : PrimOk Q N 84 (sumF gPcs) := by
  refine sum_prim calls_t1 (by kernel_rfl) (fun args v hv => ?_) N
  unfold gPcs at hv
  split at hv
  · rename_i s
    obtain ⟨hb, rfl⟩ := cnd_some hv
    obtain ⟨w, h', e, h1, h2⟩ := t1_pieces (m := many s.length + 10) (s := s) (by omega) (by simpa using hb) Fit.zero
    refine ⟨rfl, pure_strs _, _, h', _, e, ?_⟩
    have hn : pieces s = [] ↔ s = [] := by
      constructor
      · intro hp
        have : (pieces s).length = 0 := by rw [hp]; rfl
        rw [pieces, pcs_len] at this
        exact List.eq_nil_of_length_eq_zero (by unfold many at this; omega)
      · intro hs; subst hs; rfl
    exact (strs_ro _ w (fun e => h1 (hn.1 e)) (fun e => h2 (fun es => e (hn.2 es)))).symm
  · cases hv
theorem ok_seal (N : Nat) : PrimOk Q N 132 (sumF gSeal) := by
  refine sum_prim calls_t1 (by kernel_rfl) (fun args v hv => ?_) N
  unfold gSeal at hv
  split at hv
  · rename_i st c d
    obtain ⟨hb, rfl⟩ := cnd_some hv
    simp only [Bool.and_eq_true, decide_eq_true_eq] at hb
    obtain ⟨⟨⟨h1, h2⟩, h3⟩, h4⟩ := hb
    obtain ⟨st, rfl, k1⟩ := u32B_iff h1
    obtain ⟨c, rfl⟩ := Int.eq_ofNat_of_zero_le (show 0 ≤ c by omega)
    obtain ⟨h', e⟩ := t1_seal (m := 9) (st := st) (ct := c) (d := d) (by omega) k1 (by omega) (by omega) h4 heap0
    exact ⟨rfl, rfl, _, h', _, e, rfl⟩
  · cases hv
theorem pure_openV (r : Option (Nat × Nat × List UInt8)) : pureV (openV r) = true := by
  match r with
  | none => rfl
  | some (_, _, _) => rfl
theorem ro_openV (r : Option (Nat × Nat × List UInt8)) : roV (openV r) = openV r := by
  match r with
  | none => rfl
  | some (_, _, _) => rfl
theorem ok_open (N : Nat) : PrimOk Q N 123 (sumF gOpen) := by
  refine sum_prim calls_t1 (by kernel_rfl) (fun args v hv => ?_) N
  unfold gOpen at hv
  split at hv
  · rename_i s
    cases hv
    exact ⟨rfl, pure_openV _, _, _, _, t1_open (m := 9) (s := s) (by omega) heap0, (ro_openV _).symm⟩
  · cases hv
theorem ok_henc (N : Nat) : PrimOk Q N 87 (sumF gHEnc) := by
  refine sum_prim calls_t1 (by kernel_rfl) (fun args v hv => ?_) N
  unfold gHEnc at hv
  split at hv
  · rename_i log gen st base
    obtain ⟨hb, hv⟩ := cnd_some' hv
    simp only [Bool.and_eq_true] at hb
    obtain ⟨gen, rfl, h1⟩ := u32B_iff hb.1
    obtain ⟨st, rfl, h2⟩ := u32B_iff hb.2
    cases hc : mayH log base with
    | true =>
      rw [hc] at hv; cases hv
      have hh := hc
      simp only [mayH, Bool.and_eq_true, decide_eq_true_eq] at hh
      obtain ⟨log, rfl⟩ := Int.eq_ofNat_of_zero_le (show 0 ≤ log by omega)
      obtain ⟨base, rfl⟩ := Int.eq_ofNat_of_zero_le (show 0 ≤ base by omega)
      obtain ⟨h', -, e⟩ := t1_hencode (m := 40) (log := log) (gen := gen) (st := st) (base := base) (by omega) hc h1 h2 Fit.zero
      exact ⟨rfl, rfl, _, h', _, e, rfl⟩
    | false =>
      rw [hc] at hv; cases hv
      obtain ⟨h', -, e⟩ := t1_hencode_bad (m := 40) (log := log) (gen := gen) (st := st) (base := base) (by omega) hc Fit.zero
      exact ⟨rfl, rfl, _, h', _, e, rfl⟩
  · cases hv
theorem ok_told (N : Nat) : PrimOk Q N 126 (sumF gTold) := by
  refine sum_prim calls_t1 (by kernel_rfl) (fun args v hv => ?_) N
  unfold gTold at hv
  split at hv
  · rename_i s
    obtain ⟨hb, rfl⟩ := cnd_some hv
    exact ⟨rfl, rfl, _, _, _, t1_told (m := 9) (s := s) (by omega) (by simpa using hb) heap0, rfl⟩
  · cases hv
theorem ok_renc (N : Nat) : PrimOk Q N 68 (sumF gREnc) := by
  refine sum_prim calls_t1 (by kernel_rfl) (fun args v hv => ?_) N
  unfold gREnc at hv
  split at hv
  · rename_i st a k p
    obtain ⟨hb, rfl⟩ := cnd_some hv
    simp only [Bool.and_eq_true, decide_eq_true_eq] at hb
    obtain ⟨⟨⟨⟨⟨h1, h2⟩, h3⟩, h4⟩, h5⟩, h6⟩ := hb
    obtain ⟨st, rfl, k1⟩ := u32B_iff h1
    obtain ⟨a, rfl⟩ := Int.eq_ofNat_of_zero_le h2
    obtain ⟨k, rfl⟩ := Int.eq_ofNat_of_zero_le h4
    obtain ⟨h', e⟩ := t1_rfencode (m := 9) (st := st) (a := a) (k := k) (p := p) (by omega) k1 (by omega) (by omega) h6 heap0
    exact ⟨rfl, rfl, _, h', _, e, rfl⟩
  · cases hv
theorem ok_wrong (N : Nat) : PrimOk Q N 67 (sumF gWrong) := by
  refine sum_prim calls_t1 (by kernel_rfl) (fun args v hv => ?_) N
  unfold gWrong at hv
  split at hv
  · rename_i a k p
    cases hv
    obtain ⟨h', e⟩ := t1_rwrong (m := 9) (a := a) (k := k) (p := p) (by omega) heap0
    exact ⟨rfl, rfl, _, h', _, e, rfl⟩
  · cases hv
theorem pure_strsR (xs : List (List UInt8)) : pureV (strsR xs) = true := by
  match xs with
  | [] => rfl
  | [x] => exact pureVs_strs [x]
  | x :: y :: xs => exact pureVs_strs (x :: y :: xs)
theorem ok_rpcs (N : Nat) : PrimOk Q N 65 (sumF gRPcs) := by
  refine sum_prim calls_t1 (by kernel_rfl) (fun args v hv => ?_) N
  unfold gRPcs at hv
  split at hv
  · rename_i s
    obtain ⟨hb, rfl⟩ := cnd_some hv
    have hs : s.length < 20000 := by simpa using hb
    obtain ⟨w, h', e, -, h1, h2, h3⟩ := t1_rpieces s.length (m := many s.length + s.length + 20) (s := s) (Nat.le_refl _) (by omega) (Nat.le_refl _) heap0 Fit.zero
    refine ⟨rfl, pure_strsR _, _, h', _, e, ?_⟩
    by_cases c0 : s = []
    · rw [h1 c0]; subst c0; rfl
    · have hl : 0 < s.length := List.length_pos_iff.2 c0
      by_cases c1 : s.length ≤ 52
      · rw [h2 c0 c1]
        have hm : many s.length = 1 := by unfold many; omega
        rw [pieces, hm, pcs, pcs]
        rfl
      · obtain ⟨t, rfl⟩ := h3 (by omega)
        obtain ⟨n, hn⟩ : ∃ n, many s.length = n + 2 := ⟨many s.length - 2, by unfold many; omega⟩
        rw [pieces, hn, pcs, pcs]
        show _ = Val.sl .ro 1 (roVs ((_ :: _ :: _).map Val.str))
        rw [roVs_strs]
        rfl
  · cases hv
theorem ok_rhenc (N : Nat) : PrimOk Q N 66 (sumF gRHEnc) := by
  refine sum_prim calls_t1 (by kernel_rfl) (fun args v hv => ?_) N
  unfold gRHEnc at hv
  split at hv
  · rename_i log gen st base
    obtain ⟨hb, rfl⟩ := cnd_some hv
    simp only [Bool.and_eq_true, decide_eq_true_eq] at hb
    obtain ⟨⟨⟨⟨⟨h1, h2⟩, h3⟩, h4⟩, h5⟩, h6⟩ := hb
    obtain ⟨gen, rfl, k1⟩ := u32B_iff h1
    obtain ⟨st, rfl, k2⟩ := u32B_iff h2
    obtain ⟨log, rfl⟩ := Int.eq_ofNat_of_zero_le h3
    obtain ⟨base, rfl⟩ := Int.eq_ofNat_of_zero_le h5
    obtain ⟨h', e⟩ := t1_rhencode (m := 9) (log := log) (gen := gen) (st := st) (base := base) (by omega) (by omega) k1 k2 (by omega) heap0
    exact ⟨rfl, rfl, _, h', _, e, rfl⟩
  · cases hv
theorem ok_may (N : Nat) : PrimOk Q N 12 (sumF gMay) := by
  refine sum_prim calls_t1 (by kernel_rfl) (fun args v hv => ?_) N
  unfold gMay at hv
  split at hv
  · rename_i log gen st base
    cases hv
    obtain ⟨h', e⟩ := t1_may (m := 9) (log := log) (gen := gen) (st := st) (base := base) (by omega) heap0
    exact ⟨rfl, rfl, _, h', _, e, rfl⟩
  · cases hv
theorem ok_rseal (N : Nat) : PrimOk Q N 69 (sumF gRSeal) := by
  refine sum_prim calls_t1 (by kernel_rfl) (fun args v hv => ?_) N
  unfold gRSeal at hv
  split at hv
  · rename_i st c d
    obtain ⟨hb, rfl⟩ := cnd_some hv
    simp only [Bool.and_eq_true, decide_eq_true_eq] at hb
    obtain ⟨⟨⟨h1, h2⟩, h3⟩, h4⟩ := hb
    obtain ⟨st, rfl, k1⟩ := u32B_iff h1
    obtain ⟨c, rfl⟩ := Int.eq_ofNat_of_zero_le h2
    exact ⟨rfl, rfl, _, _, _, t1_rseal (m := 9) (st := st) (ct := c) (d := d) (by omega) k1 (by omega) h4 heap0, rfl⟩
  · cases hv
theorem ok_same (N : Nat) : PrimOk Q N 25 (sumF gSame) := by
  refine sum_prim calls_t1 (by kernel_rfl) (fun args v hv => ?_) N
  unfold gSame at hv
  split at hv
  · rename_i u z l w y r
    split at hv
    · rename_i a b ha hb2
      obtain ⟨hb, rfl⟩ := cnd_some hv
      simp only [Bool.and_eq_true, decide_eq_true_eq] at hb
      obtain ⟨⟨⟨⟨⟨h1, h2⟩, h3⟩, h4⟩, h5⟩, h6⟩ := hb
      have hz := Nat.eq_of_beq_eq_true h1
      have hy := Nat.eq_of_beq_eq_true h2
      have e1 := frsOf_some ha
      have e2 := frsOf_some hb2
      subst hz hy e1 e2
      obtain ⟨h', e⟩ := t1_same (m := a.length + 5) (u := u) (w := w) (xs := a) (ys := b) (by omega) (by omega) (by omega) heap0
      refine ⟨?_, rfl, _, h', _, e, rfl⟩
      have k : ∀ (w : Own) (x : List Fr), pureV (.sl w 2 []) = true → pureV (.sl w 2 (x.map frV)) = true := fun w x hw => by
        cases w with
        | tok t => cases hw
        | _ => exact pureVs_frs x
      show (pureV _ && (pureV _ && true)) = true
      rw [k u a h3, k w b h4]; rfl
    · cases hv
  · cases hv
end Go.AM.T
set_option maxRecDepth 1000000
set_option linter.unusedVariables false
set_option linter.unusedSimpArgs false
namespace Go.AM.T
open Go Go.AM
theorem hp_t2_155 (N : Nat) : PrimOk Q N 155 (sumF gRead) := ok_read N
theorem hp_t2_115 (N : Nat) : PrimOk Q N 115 (sumF gRRead) := ok_rread N
theorem hp_t2_87 (N : Nat) : PrimOk Q N 87 (sumF gHEnc) := ok_henc N
theorem hp_t2_68 (N : Nat) : PrimOk Q N 68 (sumF gREnc) := ok_renc N
theorem hp_t2_66 (N : Nat) : PrimOk Q N 66 (sumF gRHEnc) := ok_rhenc N
theorem hp_t2_12 (N : Nat) : PrimOk Q N 12 (sumF gMay) := ok_may N
theorem hp_t2_69 (N : Nat) : PrimOk Q N 69 (sumF gRSeal) := ok_rseal N
theorem ok_t2 (N : Nat) : t2.All fun f fn => okFn Q (drOk Q) f fn = true ∨ ∃ F, fn = .prim F ∧ PrimOk Q N f F := ⟨⟨⟨.inr ⟨_, rfl, hp_t2_12 N⟩, ⟨.inl ok63, .inr ⟨_, rfl, hp_t2_66 N⟩⟩⟩, ⟨.inr ⟨_, rfl, hp_t2_68 N⟩, ⟨.inr ⟨_, rfl, hp_t2_69 N⟩, .inl ok80⟩⟩⟩, ⟨⟨.inl ok81, ⟨.inr ⟨_, rfl, hp_t2_87 N⟩, .inr ⟨_, rfl, hp_t2_115 N⟩⟩⟩, ⟨⟨.inl ok118, .inl ok124⟩, ⟨.inl ok133, .inr ⟨_, rfl, hp_t2_155 N⟩⟩⟩⟩⟩
theorem calls_t2 (N n : Nat) : CallOk Q N (run t2.get n) := calls_of ok_t2 N n
theorem ok_hdec (N : Nat) : PrimOk Q N 124 (sumF gHDec) := by
  refine sum_prim calls_t2 (by kernel_rfl) (fun args v hv => ?_) N
  unfold gHDec at hv
  split at hv
  · rename_i s
    obtain ⟨hb, rfl⟩ := cnd_some hv
    obtain ⟨h', -, e⟩ := t2_hdecode (m := 60) (s := s) (by omega) (by simpa using hb) Fit.zero
    exact ⟨rfl, rfl, _, h', _, e, rfl⟩
  · cases hv
theorem ok_rdec (N : Nat) : PrimOk Q N 81 (sumF gRDec) := by
  refine sum_prim calls_t2 (by kernel_rfl) (fun args v hv => ?_) N
  unfold gRDec at hv
  split at hv
  · rename_i st a s
    obtain ⟨hb, rfl⟩ := cnd_some hv
    simp only [Bool.and_eq_true, decide_eq_true_eq] at hb
    obtain ⟨⟨h1, h2⟩, h3⟩ := hb
    obtain ⟨st, rfl, k1⟩ := u32B_iff h1
    obtain ⟨a, rfl⟩ := Int.eq_ofNat_of_zero_le (show 0 ≤ a by simp only [okPlace, Bool.and_eq_true, decide_eq_true_eq] at h2; omega)
    obtain ⟨h', e⟩ := t2_rdecode (m := 9) (st := st) (a := a) (s := s) (by omega) k1 h2 h3 heap0
    exact ⟨rfl, rfl, _, h', _, e, rfl⟩
  · cases hv
theorem ok_rhdec (N : Nat) : PrimOk Q N 80 (sumF gRHDec) := by
  refine sum_prim calls_t2 (by kernel_rfl) (fun args v hv => ?_) N
  unfold gRHDec at hv
  split at hv
  · rename_i s
    cases hv
    obtain ⟨h', e⟩ := t2_rhdecode (m := 9) (s := s) (by omega) heap0
    exact ⟨rfl, rfl, _, h', _, e, rfl⟩
  · cases hv
theorem pure_openR (r : Option (Nat × Nat × List UInt8)) : pureV (openR r) = true := by
  match r with
  | none => rfl
  | some (_, _, _) => rfl
theorem ro_openR (r : Option (Nat × Nat × List UInt8)) : roV (openR r) = openR r := by
  match r with
  | none => rfl
  | some (_, _, _) => rfl
theorem ok_ropen (N : Nat) : PrimOk Q N 63 (sumF gROpen) := by
  refine sum_prim calls_t2 (by kernel_rfl) (fun args v hv => ?_) N
  unfold gROpen at hv
  split at hv
  · rename_i s
    cases hv
    obtain ⟨h', e⟩ := t2_ropen (m := 9) (s := s) (by omega) heap0
    exact ⟨rfl, pure_openR _, _, h', _, e, (ro_openR _).symm⟩
  · cases hv
end Go.AM.T
set_option maxRecDepth 1000000
set_option linter.unusedVariables false
set_option linter.unusedSimpArgs false
namespace Go.AM.T
open Go Go.AM
theorem hp_t3_63 (N : Nat) : PrimOk Q N 63 (sumF gROpen) := ok_ropen N
theorem hp_t3_69 (N : Nat) : PrimOk Q N 69 (sumF gRSeal) := ok_rseal N
theorem ok_t3 (N : Nat) : t3.All fun f fn => okFn Q (drOk Q) f fn = true ∨ ∃ F, fn = .prim F ∧ PrimOk Q N f F := ⟨⟨.inl ok16, .inr ⟨_, rfl, hp_t3_63 N⟩⟩, ⟨.inl ok64, ⟨.inr ⟨_, rfl, hp_t3_69 N⟩, .inl ok82⟩⟩⟩
theorem calls_t3 (N n : Nat) : CallOk Q N (run t3.get n) := calls_of ok_t3 N n
theorem pure_secV (x : Sec) : pureV (secV x) = true := pureVs_strs x
theorem ro_secV (x : Sec) : roV (secV x) = secV x := by simp [secV, secC, roV, roVs_strs]
theorem ok_put (N : Nat) : PrimOk Q N 64 (sumF gPut) := by
  refine sum_prim calls_t3 (by kernel_rfl) (fun args v hv => ?_) N
  unfold gPut at hv
  split at hv
  · rename_i l st a ct w z ps
    split at hv
    · rename_i x p hx hp
      obtain ⟨hb, rfl⟩ := cnd_some hv
      simp only [Bool.and_eq_true, decide_eq_true_eq, List.all_eq_true] at hb
      obtain ⟨⟨⟨⟨⟨⟨⟨⟨h1, h2⟩, h3⟩, h4⟩, h5⟩, h6⟩, h7⟩, h8⟩, h9⟩ := hb
      obtain ⟨st, rfl, k1⟩ := u32B_iff h1
      obtain ⟨a, rfl⟩ := Int.eq_ofNat_of_zero_le h2
      obtain ⟨ct, rfl⟩ := Int.eq_ofNat_of_zero_le h3
      have hz := Nat.eq_of_beq_eq_true h8
      have e1 := strsOf_some hx
      have e2 := strsOf_some hp
      subst hz e1 e2
      obtain ⟨h', e⟩ := t3_put (m := 30) (u := w) (st := st) (a := a) (ct := ct) (ps := p) (x := x) (by omega) k1 (by omega) (fun q hq => Nat.eq_of_beq_eq_true (h7 q hq)) (by simpa using h5) (Nat.eq_of_beq_eq_true h6) heap0
      refine ⟨?_, pure_secV _, _, h', _, e, (ro_secV _).symm⟩
      show (pureVs _ && (true && (true && (true && (pureV _ && true))))) = true
      rw [pureVs_strs, pureV_own _ _ _ h9 (pureVs_strs _)]; rfl
    · cases hv
  · cases hv
theorem ok_blank (N : Nat) : PrimOk Q N 16 (sumF gBlank) := by
  refine sum_prim calls_t3 (by kernel_rfl) (fun args v hv => ?_) N
  unfold gBlank at hv
  split at hv
  · cases hv
    obtain ⟨h', e⟩ := t3_blank (m := 30) (by omega) heap0
    exact ⟨rfl, pure_secV _, _, h', _, e, (ro_secV _).symm⟩
  · cases hv
theorem ok_run (N : Nat) : PrimOk Q N 82 (sumF gRun) := by
  refine sum_prim calls_t3 (by kernel_rfl) (fun args v hv => ?_) N
  unfold gRun at hv
  split at hv
  · rename_i l st a ct
    split at hv
    · rename_i x hx
      obtain ⟨hb, rfl⟩ := cnd_some hv
      simp only [Bool.and_eq_true, decide_eq_true_eq] at hb
      obtain ⟨⟨⟨⟨h1, h2⟩, h3⟩, h4⟩, h5⟩ := hb
      obtain ⟨st, rfl, k1⟩ := u32B_iff h1
      obtain ⟨a, rfl⟩ := Int.eq_ofNat_of_zero_le h2
      obtain ⟨ct, rfl⟩ := Int.eq_ofNat_of_zero_le h4
      have e1 := strsOf_some hx
      subst e1
      obtain ⟨h', e⟩ := t3_run (m := 30) (st := st) (ct := ct) (a := a) (x := x) (by omega) (Nat.eq_of_beq_eq_true h5) (by omega) Fit.zero
      refine ⟨?_, rfl, _, h', _, e, rfl⟩
      show (pureVs _ && (true && (true && (true && true)))) = true
      rw [pureVs_strs]; rfl
    · cases hv
  · cases hv
end Go.AM.T
