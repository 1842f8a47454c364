/- Part 14 of the proof: an abstract machine over the translated code, the functions' contracts, and the plain law. -/
import Derived.Lib.AtoiAllCases
import Derived.Test.YtpodjaolnceggaaDoorM13
set_option linter.unusedSimpArgs false
set_option linter.unusedVariables false
set_option linter.unusedSectionVars false
section
namespace S
open Go AB
theorem dec_step (u : Nat) (h : 10 ≤ u) : Lib.decDigits u = Lib.decDigits (u / 10) ++ [UInt8.ofNat (48 + u % 10)] := by
  rw [Lib.decDigits, dif_neg (by omega)]
theorem dec_one (u : Nat) (h : u < 10) : Lib.decDigits u = [UInt8.ofNat (48 + u)] := by
  rw [Lib.decDigits, dif_pos h]
theorem dec_len : ∀ (k u : Nat), u < 10 ^ (k + 1) → (Lib.decDigits u).length ≤ k + 1
  | 0, u, h => by rw [dec_one u (by omega)]; simp
  | k + 1, u, h => by
    by_cases hu : u < 10
    · rw [dec_one u hu]; simp
    · rw [dec_step u (by omega)]
      have := dec_len k (u / 10) (by rw [Nat.pow_succ] at h; omega)
      simp; omega
theorem dec_pos (u : Nat) : 1 ≤ (Lib.decDigits u).length := by
  by_cases hu : u < 10
  · rw [dec_one u hu]; simp
  · rw [dec_step u (by omega)]; simp
theorem dig_nat (u : Nat) (h : u < 10) : (UInt8.ofNat (48 + u)).toNat = 48 + u := by
  rw [UInt8.toNat_ofNat']; omega
theorem dec_mem (u : Nat) : ∀ b ∈ Lib.decDigits u, 48 ≤ b.toNat ∧ b.toNat ≤ 57 := by
  induction u using Nat.strongRecOn with
  | _ u ih =>
    intro b hb
    by_cases hu : u < 10
    · rw [dec_one u hu, List.mem_singleton] at hb
      subst hb; rw [dig_nat u hu]; omega
    · rw [dec_step u (by omega), List.mem_append, List.mem_singleton] at hb
      rcases hb with hb | hb
      · exact ih (u / 10) (by omega) b hb
      · subst hb; rw [dig_nat _ (by omega)]; omega
/-- what digits spell -/
def valL : Nat → List UInt8 → Option Nat
  | a, [] => some a
  | a, b :: l => if 48 ≤ b.toNat ∧ b.toNat ≤ 57 then valL (10 * a + (b.toNat - 48)) l else none
theorem valL_append : ∀ (l m : List UInt8) (a : Nat), valL a (l ++ m) = (valL a l).bind fun x => valL x m
  | [], m, a => rfl
  | b :: l, m, a => by
    simp only [List.cons_append, valL]
    split
    · exact valL_append l m _
    · rfl
theorem valL_dec (u : Nat) : valL 0 (Lib.decDigits u) = some u := by
  induction u using Nat.strongRecOn with
  | _ u ih =>
    by_cases hu : u < 10
    · rw [dec_one u hu]
      simp only [valL]
      rw [dig_nat u hu, if_pos (by omega)]
      simp
    · rw [dec_step u (by omega), valL_append, ih (u / 10) (by omega)]
      simp only [Option.bind, valL]
      rw [dig_nat _ (by omega), if_pos (by omega)]
      congr 1; omega
theorem valL_ge : ∀ (l : List UInt8) (a v : Nat), valL a l = some v → a ≤ v
  | [], a, v, h => by cases h; exact Nat.le_refl _
  | b :: l, a, v, h => by
    simp only [valL] at h
    split at h
    · have := valL_ge l _ v h; omega
    · cases h
theorem valL_lt : ∀ (l : List UInt8) (a v : Nat), valL a l = some v → v < (a + 1) * 10 ^ l.length
  | [], a, v, h => by cases h; simp
  | b :: l, a, v, h => by
    simp only [valL] at h
    split at h
    · have := valL_lt l _ v h
      rename_i hb
      refine Nat.lt_of_lt_of_le this ?_
      rw [List.length_cons, Nat.pow_succ, Nat.mul_comm (10 ^ l.length), ← Nat.mul_assoc]
      exact Nat.mul_le_mul_right _ (by omega)
    · cases h
theorem parse10 : ∀ (l : List UInt8) (a v : Nat), valL a l = some v → v < 1844674407370955160 → Lib.parseUint10 a l = .ok v
  | [], a, v, h, _ => by cases h; rfl
  | b :: l, a, v, h, hv => by
    simp only [valL] at h
    split at h
    · rename_i hb
      have := valL_ge l _ v h
      simp only [Lib.parseUint10]
      rw [if_pos hb, if_neg (by omega), if_neg (by omega)]
      have e : a * 10 + (b.toNat - 48) = 10 * a + (b.toNat - 48) := by omega
      rw [e]
      exact parse10 l _ v h hv
    · cases h
theorem dec_ne (u : Nat) : Lib.decDigits u ≠ [] := by
  have := dec_pos u
  intro h; rw [h] at this; simp at this
theorem parseMag_dec (u : Nat) (hu : u < 1844674407370955160) : Lib.parseMag (Lib.decDigits u) = .ok u := by
  rw [Lib.parseMag, if_neg (dec_ne u), parse10 _ 0 u (valL_dec u) hu]
theorem itoa_nn {n : Int} (h : 0 ≤ n) : Lib.itoa n = Lib.decDigits n.toNat := by rw [Lib.itoa, if_neg (by omega)]
theorem itoa_ng {n : Int} (h : n < 0) : Lib.itoa n = 45 :: Lib.decDigits n.natAbs := by rw [Lib.itoa, if_pos h]
theorem atoi_itoa (n : Int) (h0 : -1000000000000 ≤ n) (h1 : n ≤ 1000000000000) : Lib.atoiAll (Lib.itoa n) = .ok n := by
  by_cases hn : n < 0
  · rw [itoa_ng hn]
    simp only [Lib.atoiAll]
    rw [if_pos (by decide), parseMag_dec _ (by omega)]
    simp only []
    rw [if_neg (fun h => h.1 (by decide)), if_neg (by omega), if_pos (by decide)]
    congr 1; omega
  · rw [itoa_nn (by omega)]
    have hm := parseMag_dec n.toNat (by omega)
    have hd := dec_mem n.toNat
    cases hl : Lib.decDigits n.toNat with
    | nil => exact absurd hl (dec_ne _)
    | cons c r =>
      rw [hl] at hm hd
      have hc := hd c (List.mem_cons_self)
      simp only [Lib.atoiAll]
      rw [if_neg (by omega), hm]
      simp only []
      rw [if_neg (by omega), if_neg (by omega), if_neg (by omega)]
      congr 1; omega
theorem num_list (n : Int) : bys (num n) = Lib.itoa n := by simp [num, bys]
theorem parse_num (n : Int) (h0 : -999999 ≤ n) (h1 : n ≤ 999999) : parse (num n) = (n, true) := by
  have := num_list n
  unfold bys at this
  simp only [parse]
  rw [this, atoi_itoa n (by omega) (by omega)]
  simp only []
  rw [if_pos ⟨trivial, h0, h1⟩]
theorem parse_not (s : ByteArray) (h : ∀ n, -999999 ≤ n → n ≤ 999999 → num n ≠ s) : parse s = (0, false) := by
  unfold parse
  split
  · rw [if_neg (fun hn => h _ hn.2.1 hn.2.2 hn.1)]
  · rfl
theorem num_inj {m n : Int} (hm0 : -1000000000000 ≤ m) (hm1 : m ≤ 1000000000000) (hn0 : -1000000000000 ≤ n) (hn1 : n ≤ 1000000000000) (h : num m = num n) : m = n := by
  have h2 := congrArg bys h
  rw [num_list, num_list] at h2
  have h3 := atoi_itoa m hm0 hm1
  rw [h2, atoi_itoa n hn0 hn1] at h3
  injection h3 with h3
  exact h3.symm
def digs : ByteArray := ⟨#[48, 49, 50, 51, 52, 53, 54, 55, 56, 57]⟩
theorem digs_one (u : Nat) (h : u < 10) : std.ssub digs (u : Int) ((u : Int) + 1) = ⟨#[UInt8.ofNat (48 + u)]⟩ := by
  have : u = 0 ∨ u = 1 ∨ u = 2 ∨ u = 3 ∨ u = 4 ∨ u = 5 ∨ u = 6 ∨ u = 7 ∨ u = 8 ∨ u = 9 := by omega
  rcases this with h | h | h | h | h | h | h | h | h | h <;> subst h <;> rfl
theorem num_dig (n : Int) (h0 : 0 ≤ n) (h1 : n < 10) : num n = std.ssub digs n (n + 1) := by
  obtain ⟨u, rfl⟩ := Int.eq_ofNat_of_zero_le h0
  rw [digs_one u (by omega)]
  apply bys_ext
  rw [num_list, Lib.itoa, if_neg (by omega), Int.toNat_natCast, dec_one u (by omega)]
  rfl
theorem num_pos (n : Int) (h : 10 ≤ n) : num n = std.scat (num (n.tdiv 10)) (std.ssub digs (n.tmod 10) (n.tmod 10 + 1)) := by
  obtain ⟨u, rfl⟩ := Int.eq_ofNat_of_zero_le (show 0 ≤ n by omega)
  have e1 : (u : Int).tdiv 10 = ((u / 10 : Nat) : Int) := by rw [Int.tdiv_eq_ediv_of_nonneg (by omega)]; omega
  have e2 : (u : Int).tmod 10 = ((u % 10 : Nat) : Int) := by rw [Int.tmod_eq_emod_of_nonneg (by omega)]; omega
  rw [e1, e2, digs_one _ (by omega)]
  apply bys_ext
  rw [bys_scat, num_list, num_list, Lib.itoa, Lib.itoa, if_neg (by omega), if_neg (by omega), Int.toNat_natCast, Int.toNat_natCast, dec_step u (by omega)]
  rfl
theorem num_negs (n : Int) (h : n < 0) : num n = std.scat ⟨#[45]⟩ (num (-n)) := by
  apply bys_ext
  rw [bys_scat, num_list, num_list, Lib.itoa, Lib.itoa, if_pos h, if_neg (by omega)]
  have : n.natAbs = (-n).toNat := by omega
  rw [this]; rfl
theorem num_neg (n : Int) (h : n ≤ -10) : num n = std.scat (num (n.tdiv 10)) (num (-(n.tmod 10))) := by
  obtain ⟨u, hu⟩ : ∃ u : Nat, n = -(u : Int) := ⟨n.natAbs, by omega⟩
  subst hu
  have e1 : (-(u : Int)).tdiv 10 = -((u / 10 : Nat) : Int) := by rw [Int.neg_tdiv, Int.tdiv_eq_ediv_of_nonneg (by omega)]; omega
  have e2 : -((-(u : Int)).tmod 10) = ((u % 10 : Nat) : Int) := by rw [Int.neg_tmod, Int.tmod_eq_emod_of_nonneg (by omega)]; omega
  rw [e1, e2]
  apply bys_ext
  rw [bys_scat, num_list, num_list, num_list, Lib.itoa, Lib.itoa, Lib.itoa, if_pos (by omega), if_pos (by omega), if_neg (by omega), Int.toNat_natCast]
  have a1 : (-(u : Int)).natAbs = u := by omega
  have a2 : (-((u / 10 : Nat) : Int)).natAbs = u / 10 := by omega
  rw [a1, a2, dec_step u (by omega), dec_one (u % 10) (by omega)]
  rfl
theorem num_size (n : Int) (h : -10000000000000000000 < n) (h2 : n < 10000000000000000000) : (bys (num n)).length ≤ 20 := by
  rw [num_list]
  unfold Lib.itoa
  split
  · have := dec_len 18 n.natAbs (by omega)
    simp; omega
  · have := dec_len 18 n.toNat (by omega)
    omega
end S
end
