/- Part 16 of the proof: an abstract machine over the translated code, the functions' contracts, and the plain law. -/
import Derived.Test.YtpodjaolnceggaaDoorM15
set_option linter.unusedSimpArgs false
set_option linter.unusedVariables false
set_option linter.unusedSectionVars false
section
namespace S
open Go AB
theorem l1In_eq (a b c : Int) : spec_l1In a b c = some (decide (b ≤ a ∧ a ≤ c)) := by
  refine Ret.eq ?_
  simp only [spec_l1In, ret_cut, ret_cnd, ret_some, sum_l, std_le', decide_eq_true_eq, decide_eq_false_iff_not]
  refine ⟨fun h => ?_, fun h => ?_⟩
  · simp [h]
  · simp [h]
theorem in_eq (a b c : Int) : impl_in a b c = some (decide (b ≤ a ∧ a ≤ c)) := by
  refine Ret.eq ?_
  simp only [impl_in, ret_cut, ret_cnd, ret_some, sum_l, std_le', decide_eq_true_eq, decide_eq_false_iff_not]
  refine ⟨fun h => ?_, fun h => ?_⟩
  · simp [h]
  · simp [h]
theorem valL_take {l : List UInt8} {k v : Nat} (hk : k < l.length) (h : valL 0 (l.take k) = some v) (hd : 48 ≤ l[k].toNat ∧ l[k].toNat ≤ 57) : valL 0 (l.take (k + 1)) = some (10 * v + (l[k].toNat - 48)) := by
  rw [List.take_succ_eq_append_getElem hk, valL_append, h]
  simp only [Option.bind, valL]
  rw [if_pos hd]
theorem valL_bad {l : List UInt8} {k : Nat} (hk : k < l.length) (hd : ¬ (48 ≤ l[k].toNat ∧ l[k].toNat ≤ 57)) : valL 0 l = none := by
  rw [← List.take_append_drop k l, List.drop_eq_getElem_cons hk, valL_append]
  cases valL 0 (l.take k) with
  | none => rfl
  | some v => simp only [Option.bind, valL]; rw [if_neg hd]
theorem sub48 {b : UInt8} (h : 48 ≤ b.toNat ∧ b.toNat ≤ 57) : std.conv .i64 (std.sub .u8 (b.toNat : Int) 48) = ((b.toNat - 48 : Nat) : Int) := by
  have e : std.sub .u8 (b.toNat : Int) 48 = ((b.toNat - 48 : Nat) : Int) := by
    show IntKind.wrap .u8 ((b.toNat : Int) - 48) = _
    simp only [IntKind.wrap, IntKind.signed, IntKind.bits, Bool.false_and, Bool.false_eq_true, if_false]
    omega
  rw [e, std_conv64 (by omega) (by omega)]
theorem read_loop (K : Nat) (t : ByteArray) (ht : (bys t).length ≤ 6) (hK : 100 ≤ K) :
    Ret (loopF (spec_l1Read_s2 t) K ((0, 0) : Int × Int)) (SumC (fun x34 => ∃ v, valL 0 (bys t) = some v ∧ x34 = (v : Int)) (fun r => r = (0, false) ∧ valL 0 (bys t) = none)) := by
  refine ret_loop (fun x => ∃ v k : Nat, x = ((v : Int), (k : Int)) ∧ k ≤ (bys t).length ∧ valL 0 ((bys t).take k) = some v) (fun x => (bys t).length - x.2.toNat) ⟨0, 0, rfl, Nat.zero_le _, rfl⟩ (by show (bys t).length - 0 < K; omega) ?_
  rintro _ ⟨v, k, rfl, hk, hv⟩
  simp only [spec_l1Read_s2, ret_cut, ret_cnd, ret_grd, ret_out, ret_some, std_lt', std_slen', decide_eq_true_eq, decide_eq_false_iff_not, std_isin', sum_l, sum_r]
  refine ⟨fun hl => ?_, fun hl => ?_⟩
  · have hk' : k < (bys t).length := by omega
    have hb := sat_get hk'
    have hlt := valL_lt _ _ _ hv
    have hp : (10 : Nat) ^ ((bys t).take k).length ≤ 10 ^ 6 := Nat.pow_le_pow_right (by decide) (by rw [List.length_take]; omega)
    have hbad : ¬ (48 ≤ (bys t)[k].toNat ∧ (bys t)[k].toNat ≤ 57) → valL 0 (bys t) = none := valL_bad hk'
    rw [hb]
    refine ⟨⟨by omega, hl⟩, fun h1 => ⟨fun _ => ⟨trivial, hbad (by omega)⟩, fun h => nomatch h⟩, fun h1 => ⟨⟨by omega, hl⟩, ⟨fun h2 => ⟨trivial, hbad (by omega)⟩, fun h2 => ⟨⟨by omega, hl⟩, ⟨10 * v + ((bys t)[k].toNat - 48), k + 1, ?_, by omega, valL_take hk' hv (by omega)⟩, ?_⟩⟩⟩⟩
    · rw [sub48 (by omega), std_mul64 (by omega) (by omega), std_add64 (by omega) (by omega), std_add64 (by omega) (by omega)]
      simp only [Prod.mk.injEq]
      omega
    · rw [std_add64 (by omega) (by omega)]; omega
  · have : k = (bys t).length := by omega
    subst this
    rw [List.take_length] at hv
    exact ⟨v, hv, rfl⟩
/-- the digits of a text, and its sign -/
def Tail (s t : ByteArray) : Prop := (t = s ∧ ¬ (1 < (bys s).length ∧ (bys s)[0]? = some 45)) ∨ (bys s = 45 :: bys t ∧ 1 ≤ (bys t).length)
theorem tail_num {s t : ByteArray} (h : Tail s t) {n : Int} (hn : num n = s) : bys t = Lib.decDigits n.natAbs ∧ (n < 0 ↔ (bys t).length < (bys s).length) := by
  have hs : bys s = Lib.itoa n := by rw [← hn, num_list]
  have hp := dec_pos n.natAbs
  rcases h with ⟨rfl, h⟩ | ⟨h, h1⟩
  · by_cases hn0 : n < 0
    · rw [itoa_ng hn0] at hs
      exfalso
      apply h
      rw [hs]
      exact ⟨by rw [List.length_cons]; omega, rfl⟩
    · rw [itoa_nn (by omega)] at hs
      rw [hs]
      have : n.toNat = n.natAbs := by omega
      rw [this]
      exact ⟨rfl, by omega⟩
  · by_cases hn0 : n < 0
    · rw [itoa_ng hn0, h] at hs
      injection hs with _ hs
      rw [h, List.length_cons]
      exact ⟨hs, by omega⟩
    · rw [itoa_nn (by omega), h] at hs
      have hd := dec_mem n.toNat 45 (by rw [← hs]; exact List.mem_cons_self)
      exact absurd hd.1 (by decide)
theorem read_rest (K : Nat) (s t : ByteArray) (hK : 10000000 ≤ K) (h : Tail s t) :
    Ret (bnd (spec_l1In (std.slen t) 1 6) fun (x26 : Bool) =>
      cnd (std.bnot x26) (
        some (0, false)) (
        cut (
          loopF (spec_l1Read_s2 t) K ((0, 0) : Int × Int)) fun (x34 : Int) =>
        cut (
          cnd (std.lt (std.slen t) (std.slen s)) (
            some (.inl (std.neg .i64 x34))) (
            some (.inl x34))) fun (x42 : Int) =>
        bnd (spec_l1Num K K x42) fun (x43 : ByteArray) =>
        cnd (std.bnot (std.seq x43 s)) (
          some (0, false)) (
          some (x42, true)))) (fun r => r = parse s) := by
  rw [l1In_eq]
  simp only [ret_bnd, ret_some, ret_cnd]
  have hlen : ∀ n : Int, -999999 ≤ n → n ≤ 999999 → num n = s → 1 ≤ (bys t).length ∧ (bys t).length ≤ 6 := fun n h0 h1 hn => by
    rw [(tail_num h hn).1]
    exact ⟨dec_pos _, dec_len 5 _ (by omega)⟩
  refine ⟨fun hi => ?_, fun hi => ?_⟩
  · refine (parse_not s fun n h0 h1 hn => ?_).symm
    have := hlen n h0 h1 hn
    rw [std_bnot', std_slen'] at hi
    simp at hi
    omega
  · rw [std_bnot', std_slen'] at hi
    simp at hi
    rw [ret_cut]
    refine (read_loop K t (by omega) (by omega)).mono ?_
    rintro (x | z)
    · rintro ⟨v, hv, rfl⟩
      have hlt := valL_lt _ _ _ hv
      have hp : (10 : Nat) ^ (bys t).length ≤ 10 ^ 6 := Nat.pow_le_pow_right (by decide) (by omega)
      obtain ⟨n, hn⟩ : ∃ n : Int, n = if (bys t).length < (bys s).length then -(v : Int) else v := ⟨_, rfl⟩
      have hnb : -999999 ≤ n ∧ n ≤ 999999 := by rw [hn]; split <;> omega
      have hend : Ret (bnd (spec_l1Num K K n) fun (x43 : ByteArray) => cnd (std.bnot (std.seq x43 s)) (some (0, false)) (some (n, true))) (fun r => r = parse s) := by
        rw [l1Num_eq K K n (by unfold mN; split <;> omega) (by omega) (by omega)]
        simp only [ret_bnd, ret_some, ret_cnd, seq_dec, std_bnot']
        refine ⟨fun h1 => (parse_not s fun m h0 h2 hm => ?_).symm, fun h1 => ?_⟩
        · obtain ⟨e1, e2⟩ := tail_num h hm
          rw [e1, valL_dec] at hv
          injection hv with hv
          have : n = m := by
            rw [hn]
            by_cases hl : (bys t).length < (bys s).length
            · rw [if_pos hl]; have := e2.2 hl; omega
            · rw [if_neg hl]; have := mt e2.1 hl; omega
          rw [this, hm] at h1
          simp at h1
        · have hs : num n = s := by simpa using h1
          rw [← hs, parse_num n hnb.1 hnb.2]
      rw [sum_l]
      simp only [ret_cut, ret_cnd, ret_some, sum_l, std_lt', std_slen', decide_eq_true_eq, decide_eq_false_iff_not]
      refine ⟨fun hl => ?_, fun hl => ?_⟩
      · rw [if_pos (by omega)] at hn
        rw [std_neg64 (by omega) (by omega), ← hn]
        exact hend
      · rw [if_neg (by omega)] at hn
        rw [← hn]
        exact hend
    · rintro ⟨rfl, hv⟩
      refine (parse_not s fun m h0 h2 hm => ?_).symm
      rw [(tail_num h hm).1, valL_dec] at hv
      cases hv
theorem specRead_eq (K : Nat) (s : ByteArray) (hK : 10000000 ≤ K) (hs : (bys s).length ≤ 1000000) : spec_l1Read K s = some (parse s) := by
  refine Ret.eq ?_
  simp only [spec_l1Read]
  rw [ret_cut, ret_cut]
  simp only [ret_cnd, ret_grd, ret_some, std_lt', std_slen', decide_eq_true_eq, decide_eq_false_iff_not, std_isin', std_cut', std_eq', sum_l]
  refine ⟨fun hl => ⟨⟨by omega, by omega⟩, fun h0 => ?_, fun h0 => ?_⟩, fun hl => ⟨fun h => ?_, fun _ => ?_⟩⟩
  · refine ⟨⟨by omega, by omega, by omega⟩, ?_⟩
    have e : bys s = 45 :: bys (std.ssub s 1 (bys s).length) := by
      have h1 := sat_get (s := s) (k := 0) (by omega)
      rw [show ((0 : Nat) : Int) = 0 from rfl, h0] at h1
      have h2 : (bys s)[0] = 45 := UInt8.toNat_inj.1 (by have : ((45 : UInt8).toNat : Int) = 45 := rfl; omega)
      rw [bys_ssub]
      show bys s = 45 :: ((bys s).drop 1).take _
      rw [List.take_of_length_le (by rw [List.length_drop]; omega), ← h2, ← List.drop_eq_getElem_cons]
      rfl
    exact read_rest K s _ hK (.inr ⟨e, by have := congrArg List.length e; rw [List.length_cons] at this; omega⟩)
  · refine read_rest K s s hK (.inl ⟨rfl, fun hh => h0 ?_⟩)
    exact sat_of hh.2
  · cases h
  · exact read_rest K s s hK (.inl ⟨rfl, fun hh => by omega⟩)
theorem specParse_eq (K : Nat) (s : ByteArray) (hK : 10000000 ≤ K) (hs : (bys s).length ≤ 1000000) : spec_ParseInt K s = some (parse s) := by
  refine Ret.eq ?_
  simp only [spec_ParseInt, ret_bnd]
  rw [specRead_eq K s hK hs, ret_some]
  obtain ⟨a, b⟩ := parse s
  exact ret_some.2 rfl
end S
end
section
namespace S
open Go AB
/-- the code that a draw reads -/
structure Code (n : Int) (f : Int → Int) : Prop where
  n0 : 0 ≤ n
  n1 : n ≤ 65536
  f : ∀ i, 0 ≤ i → i < n → 0 ≤ f i ∧ f i ≤ 255
theorem and_255 (x : Int) : 0 ≤ std.bits .and .u64 x 255 ∧ std.bits .and .u64 x 255 ≤ 255 := by
  have h : (BitVec.ofInt 64 x &&& BitVec.ofInt 64 255).toNat ≤ 255 := by
    rw [BitVec.toNat_and]
    exact Nat.and_le_right
  have e : std.bits .and .u64 x 255 = IntKind.wrap .u64 ((BitVec.ofInt 64 x &&& BitVec.ofInt 64 255).toNat : Int) := rfl
  rw [e]
  simp only [IntKind.wrap, IntKind.signed, IntKind.bits, Bool.false_and, Bool.false_eq_true, if_false]
  omega
theorem xor_u8 (a d : Nat) (ha : a < 256) (hd : d < 256) (h0 : d ≠ 0) : ∃ r : Nat, r < 256 ∧ r ≠ a ∧ std.bits .xor .u8 (a : Int) (d : Int) = (r : Int) := by
  have e : std.bits .xor .u8 (a : Int) (d : Int) = IntKind.wrap .u8 ((BitVec.ofInt 8 (a : Int) ^^^ BitVec.ofInt 8 (d : Int)).toNat : Int) := rfl
  have hr := (BitVec.ofInt 8 (a : Int) ^^^ BitVec.ofInt 8 (d : Int)).isLt
  refine ⟨(BitVec.ofInt 8 (a : Int) ^^^ BitVec.ofInt 8 (d : Int)).toNat, hr, fun h => h0 ?_, ?_⟩
  · have ea : (BitVec.ofInt 8 (a : Int)).toNat = a := by simp; omega
    have ed : (BitVec.ofInt 8 (d : Int)).toNat = d := by simp; omega
    have h1 : BitVec.ofInt 8 (a : Int) ^^^ BitVec.ofInt 8 (d : Int) = BitVec.ofInt 8 (a : Int) := BitVec.eq_of_toNat_eq (by rw [h, ea])
    have h2 : BitVec.ofInt 8 (d : Int) = 0 := by
      have := congrArg (fun z => BitVec.ofInt 8 (a : Int) ^^^ z) h1
      simp only [← BitVec.xor_assoc, BitVec.xor_self, BitVec.zero_xor] at this
      exact this
    rw [h2] at ed
    exact ed.symm
  · rw [e]
    simp only [IntKind.wrap, IntKind.signed, IntKind.bits, Bool.false_and, Bool.false_eq_true, if_false]
    omega
theorem next_ret {n : Int} {f : Int → Int} (hc : Code n f) {p s : Int} (h0 : 0 ≤ p) (h1 : p ≤ 4611686018427387904) :
    Ret (spec_l1Cur_next n f p s) (fun r => 0 ≤ r.1 ∧ r.1 ≤ 255 ∧ r.2.1 = p + 1) := by
  have hn := hc.n1
  simp only [spec_l1Cur_next, ret_cut, ret_cnd, ret_grd, ret_some, sum_l, std_lt', std_le', std_isin', std_shok', decide_eq_true_eq, decide_eq_false_iff_not]
  have ha := and_255
  rw [std_add64 (a := p) (by omega) (by omega)]
  refine ⟨fun h => ⟨⟨h0, h⟩, fun _ => ?_, fun h2 => by omega⟩, fun h => ⟨fun h2 => by omega, fun h2 => ⟨by omega, ?_⟩⟩⟩
  · have := hc.f p h0 h
    rw [std_conv64 (by omega) (by omega)]
    exact ⟨this.1, this.2, rfl⟩
  · have := ha (std.shr .u64 (std.add .u64 (std.add .u64 (std.mul .u64 s 6364136223846793005) (std.conv .u64 0)) 462197) 40)
    rw [std_conv64 (by omega) (by omega)]
    exact ⟨this.1, this.2, rfl⟩
theorem pick_ret {n : Int} {f : Int → Int} (hc : Code n f) {p s m : Int} (h0 : 0 ≤ p) (h1 : p ≤ 4611686018427387000) (hm : 1 ≤ m) :
    Ret (spec_l1Cur_pick n f p s m) (fun r => 0 ≤ r.1 ∧ r.1 < m ∧ p ≤ r.2.1 ∧ r.2.1 ≤ p + 2) := by
  simp only [spec_l1Cur_pick, ret_cnd, ret_bnd, std_le', decide_eq_true_eq, decide_eq_false_iff_not, ret_some]
  refine ⟨fun h => ⟨by omega, by omega, by omega, by omega⟩, fun h => ?_⟩
  refine (next_ret hc h0 (by omega)).mono ?_
  rintro ⟨x, q, t⟩ ⟨hx0, hx1, hq⟩
  simp only at hx0 hx1 hq ⊢
  subst hq
  simp only [ret_cut, ret_cnd, ret_bnd, ret_some, std_lt', decide_eq_true_eq, decide_eq_false_iff_not, ret_grd, sum_l]
  refine ⟨fun h2 => ?_, fun h2 => ⟨by rw [std_nz']; omega, ?_⟩⟩
  · refine (next_ret hc (by omega) (by omega)).mono ?_
    rintro ⟨y, q, t⟩ ⟨hy0, hy1, hq⟩
    simp only at hy0 hy1 hq ⊢
    subst hq
    try simp only [sum_l, ret_grd, ret_some]
    rw [std_mul64 (by omega) (by omega), std_add64 (by omega) (by omega), std_rem']
    have h3 := Int.tmod_nonneg m (show 0 ≤ x * 256 + y by omega)
    have h4 := Int.tmod_lt_of_pos (x * 256 + y) (show 0 < m by omega)
    exact ⟨by rw [std_nz']; omega, h3, h4, by omega, by omega⟩
  · rw [std_rem']
    have h3 := Int.tmod_nonneg m hx0
    have h4 := Int.tmod_lt_of_pos x (show 0 < m by omega)
    exact ⟨h3, h4, by omega, by omega⟩
theorem one_ret {n : Int} {f : Int → Int} (hc : Code n f) {p s m : Int} (h0 : 0 ≤ p) (h1 : p ≤ 4611686018427387000) (hm : 1 ≤ m) :
    Ret (spec_l1Cur_one n f p s m) (fun r => p ≤ r.2.1 ∧ r.2.1 ≤ p + 2) := by
  simp only [spec_l1Cur_one, ret_bnd]
  refine (pick_ret hc h0 h1 hm).mono ?_
  rintro ⟨x, q, t⟩ ⟨_, _, h2, h3⟩
  simp only at h2 h3 ⊢
  rw [ret_some]
  exact ⟨h2, h3⟩
theorem among_ret {n : Int} {f : Int → Int} (hc : Code n f) {p s m : Int} {g : Int → Int} (h0 : 0 ≤ p) (h1 : p ≤ 4611686018427387000) (hm : 1 ≤ m) :
    Ret (spec_l1Cur_among n f p s m g) (fun r => (∃ i, 0 ≤ i ∧ i < m ∧ r.1 = g i) ∧ p ≤ r.2.1 ∧ r.2.1 ≤ p + 2) := by
  simp only [spec_l1Cur_among, ret_bnd]
  refine (pick_ret hc h0 h1 hm).mono ?_
  rintro ⟨x, q, t⟩ ⟨hx0, hx1, h2, h3⟩
  simp only at hx0 hx1 h2 h3 ⊢
  simp only [ret_grd, ret_some]
  exact ⟨⟨hx0, hx1⟩, ⟨x, hx0, hx1, rfl⟩, h2, h3⟩
theorem of_ret {n : Int} {f : Int → Int} (hc : Code n f) {p s m : Int} {g : Int → ByteArray} (h0 : 0 ≤ p) (h1 : p ≤ 4611686018427387000) (hm : 1 ≤ m) :
    Ret (spec_l1Cur_of n f p s m g) (fun r => (∃ i, 0 ≤ i ∧ i < m ∧ r.1 = g i) ∧ p ≤ r.2.1 ∧ r.2.1 ≤ p + 2) := by
  simp only [spec_l1Cur_of, ret_bnd]
  refine (pick_ret hc h0 h1 hm).mono ?_
  rintro ⟨x, q, t⟩ ⟨hx0, hx1, h2, h3⟩
  simp only at hx0 hx1 h2 h3 ⊢
  simp only [ret_grd, ret_some]
  exact ⟨⟨hx0, hx1⟩, ⟨x, hx0, hx1, rfl⟩, h2, h3⟩
theorem drawFormat_ret {n : Int} {f : Int → Int} (hc : Code n f) : Ret (spec_DrawFormatInt n f) (fun x => -1000000 ≤ x ∧ x ≤ 1000000) := by
  simp only [spec_DrawFormatInt, ret_bnd]
  refine (pick_ret hc (by omega) (by omega) (by omega)).mono ?_
  rintro ⟨x, q, t⟩ ⟨hx0, hx1, h2, h3⟩
  simp only at hx0 hx1 h2 h3 ⊢
  try simp only [ret_bnd]
  refine (among_ret hc (by omega) (by omega) (by omega)).mono ?_
  rintro ⟨y, q', t'⟩ ⟨⟨i, hi0, hi1, hy⟩, _, _⟩
  simp only at hy ⊢
  rw [ret_some, hy, std_sub64 (by omega) (by omega)]
  simp only [std_selI', std_eq', decide_eq_true_eq]
  repeat' split
  all_goals omega
theorem small_len {l : List UInt8} (h : l.length ≤ 30) : (bys ⟨l.toArray⟩).length ≤ 30 := by simpa [bys] using h
theorem drawParse_ret {n : Int} {f : Int → Int} (hc : Code n f) {K : Nat} (hK : 10000000 ≤ K) : Ret (spec_DrawParseInt K n f) (fun x => (bys x).length ≤ 30) := by
  simp only [spec_DrawParseInt, ret_bnd]
  refine (one_ret hc (by omega) (by omega) (by omega)).mono ?_
  rintro ⟨x, q, t⟩ ⟨h2, h3⟩
  simp only at h2 h3 ⊢
  simp only [ret_cnd, ret_bnd]
  refine ⟨fun _ => ?_, fun _ => ?_⟩
  · refine (of_ret hc (by omega) (by omega) (by omega)).mono ?_
    rintro ⟨y, q', t'⟩ ⟨⟨i, hi0, hi1, hy⟩, _, _⟩
    simp only at hy ⊢
    rw [ret_some, hy]
    simp only [std_selS', std_eq', decide_eq_true_eq]
    repeat' split
    all_goals exact (by decide)
  · refine (pick_ret hc (by omega) (by omega) (by omega)).mono ?_
    rintro ⟨y, q', t'⟩ ⟨hy0, hy1, _, _⟩
    simp only at hy0 hy1 ⊢
    try simp only [ret_bnd]
    rw [std_sub64 (by omega) (by omega), l1Num_eq K K _ (by unfold mN; split <;> omega) (by omega) (by omega), ret_some, ret_some]
    have := num_size (y - 1000) (by omega) (by omega)
    omega
theorem bys_ofB (n : Int) (f : Int → List AV) : bys (std.ofB n f) = (List.range n.toNat).map fun (i : Nat) => byteOf (f (Int.ofNat i)) := by
  show (⟨((List.range n.toNat).map fun (i : Nat) => byteOf (f (Int.ofNat i))).toArray⟩ : ByteArray).data.toList = _
  simp
theorem drawAppend_ret {n : Int} {f : Int → Int} (hc : Code n f) : Ret (spec_DrawAppendChecksum n f) (fun x => (bys x).length ≤ 4000) := by
  simp only [spec_DrawAppendChecksum, ret_bnd]
  refine (one_ret hc (by omega) (by omega) (by omega)).mono ?_
  rintro ⟨x, q, t⟩ ⟨h2, h3⟩
  simp only at h2 h3 ⊢
  simp only [ret_cnd, ret_bnd]
  refine ⟨fun _ => ?_, fun _ => ?_⟩
  · refine (pick_ret hc (by omega) (by omega) (by omega)).mono ?_
    rintro ⟨y, q', t'⟩ ⟨hy0, hy1, _, _⟩
    simp only at hy0 hy1 ⊢
    simp only [ret_grd, ret_some]
    rw [std_add64 (by omega) (by omega)]
    refine ⟨by rw [std_makes']; omega, fun _ _ => ⟨0, rfl⟩, ?_⟩
    rw [bys_ofB, List.length_map, List.length_range]
    omega
  · simp only [spec_l1Cur_any1, ret_bnd]
    refine (of_ret hc (by omega) (by omega) (by omega)).mono ?_
    rintro ⟨y, q', t'⟩ ⟨⟨i, hi0, hi1, hy⟩, _, _⟩
    simp only at hy ⊢
    rw [ret_some]
    simp only []
    rw [ret_some, hy]
    simp only [std_selS', std_eq', decide_eq_true_eq]
    repeat' split
    all_goals exact (by decide)
theorem vAt_ret {n : Int} {f : Int → Int} (hc : Code n f) {k : Int} (h0 : 0 ≤ k) (h1 : k ≤ 1000) : Ret (laws_vAt n f k) (fun x => 0 ≤ x ∧ x ≤ 255) := by
  have hn := hc.n0
  have hn1 := hc.n1
  simp only [laws_vAt, ret_cnd, ret_grd, ret_some, std_lt', std_isin', decide_eq_true_eq, decide_eq_false_iff_not]
  refine ⟨fun h => ⟨⟨h0, h⟩, ?_⟩, fun h => ⟨by rw [std_nz']; omega, ?_⟩⟩
  · have := hc.f k h0 h
    rw [std_conv64 (by omega) (by omega)]
    exact this
  · rw [std_mul64 (by omega) (by omega), std_add64 (by omega) (by omega), std_rem']
    have h3 := Int.tmod_nonneg 256 (show 0 ≤ k * 7 + n by omega)
    have h4 := Int.tmod_lt_of_pos (k * 7 + n) (show (0 : Int) < 256 by omega)
    omega
end S
end
section
namespace S
open Go AB
theorem step_h {a b : Int} {c : UInt8} (ha0 : 0 ≤ a) (ha1 : a < 999979) (hb0 : 0 ≤ b) (hb1 : b < 999979) (h : sumS a c = sumS b c) : a = b := by
  unfold sumS at h
  have := u8_bd c
  omega
theorem step_c {a : Int} {c d : UInt8} (h : sumS a c = sumS a d) : c = d := by
  unfold sumS at h
  have h1 := u8_bd c
  have h2 := u8_bd d
  exact UInt8.toNat_inj.1 (by omega)
theorem fold_inj : ∀ (r : List UInt8) (a b : Int), 0 ≤ a → a < 999979 → 0 ≤ b → b < 999979 → r.foldl sumS a = r.foldl sumS b → a = b
  | [], a, b, _, _, _, _, h => h
  | c :: r, a, b, ha0, ha1, hb0, hb1, h => by
    have b1 : 0 ≤ sumS a c ∧ sumS a c < 999979 := by unfold sumS; omega
    have b2 : 0 ≤ sumS b c ∧ sumS b c < 999979 := by unfold sumS; omega
    exact step_h ha0 ha1 hb0 hb1 (fold_inj r _ _ b1.1 b1.2 b2.1 b2.2 h)
theorem sum_one {p r : List UInt8} {c d : UInt8} (h : sumL (p ++ c :: r) = sumL (p ++ d :: r)) : c = d := by
  unfold sumL at h
  rw [List.foldl_append, List.foldl_append, List.foldl_cons, List.foldl_cons] at h
  have b1 : 0 ≤ sumS (p.foldl sumS 7) c ∧ sumS (p.foldl sumS 7) c < 999979 := by unfold sumS; omega
  have b2 : 0 ≤ sumS (p.foldl sumS 7) d ∧ sumS (p.foldl sumS 7) d < 999979 := by unfold sumS; omega
  exact step_c (fold_inj r _ _ b1.1 b1.2 b2.1 b2.2 h)
theorem itoa_no (n : Int) : hasH (Lib.itoa n) = false := by
  unfold hasH
  rw [List.contains_eq_mem, decide_eq_false_iff_not]
  intro hm
  unfold Lib.itoa at hm
  split at hm
  · rw [List.mem_cons] at hm
    rcases hm with hm | hm
    · exact absurd hm (by decide)
    · exact absurd (dec_mem _ _ hm).1 (by decide)
  · exact absurd (dec_mem _ _ hm).1 (by decide)
theorem hasH_app {a b : List UInt8} : hasH (a ++ b) = (hasH a || hasH b) := by
  unfold hasH
  simp [List.contains_eq_mem]
theorem hasH_cons {a : UInt8} {b : List UInt8} : hasH (a :: b) = (a == 35 || hasH b) := by
  unfold hasH
  rw [List.contains_cons]
  have : ((35 : UInt8) == a) = (a == 35) := by rw [Bool.eq_iff_iff, beq_iff_eq, beq_iff_eq]; exact eq_comm
  rw [this]
theorem itoa_sum_inj {a b : List UInt8} (h : Lib.itoa (sumL a) = Lib.itoa (sumL b)) : sumL a = sumL b := by
  have b1 := sumL_bd a
  have b2 := sumL_bd b
  have h3 := atoi_itoa (sumL a) (by omega) (by omega)
  rw [h, atoi_itoa (sumL b) (by omega) (by omega)] at h3
  injection h3 with h3
  exact h3.symm
/-- no other byte at one place: no text with its checksum -/
theorem tamper (x : List UInt8) (hx : hasH x = false) (k : Nat) (hk : k < (sealL x).length) (c : UInt8) (hc : c ≠ (sealL x)[k]) : sealL (bef ((sealL x).set k c)) ≠ (sealL x).set k c := by
  intro h
  rcases Nat.lt_trichotomy k x.length with hlt | heq | hgt
  · have hs : (sealL x).set k c = x.set k c ++ 35 :: Lib.itoa (sumL x) := by unfold sealL; rw [List.set_append_left _ _ hlt]
    have hg : (sealL x)[k] = x[k] := by
      have h1 : (sealL x)[k]? = some x[k] := by unfold sealL; rw [List.getElem?_append_left hlt, List.getElem?_eq_getElem hlt]
      rw [List.getElem?_eq_getElem hk] at h1
      injection h1
    rw [hg] at hc
    rw [hs] at h
    have hd : x.set k c = x.take k ++ c :: x.drop (k + 1) := by rw [List.set_eq_take_append_cons_drop, if_pos hlt]
    have hd0 : x = x.take k ++ x[k] :: x.drop (k + 1) := by rw [← List.drop_eq_getElem_cons hlt, List.take_append_drop]
    have hno : hasH (x.take k) = false ∧ hasH (x.drop (k + 1)) = false := by
      rw [hd0, hasH_app, hasH_cons] at hx
      simp only [Bool.or_eq_false_iff] at hx
      exact ⟨hx.1, hx.2.2⟩
    by_cases h35 : c = 35
    · subst h35
      rw [hd, List.append_assoc, List.cons_append, bef_app hno.1] at h
      unfold sealL at h
      have h2 := List.append_cancel_left h
      injection h2 with _ h2
      have h3 := itoa_no (sumL (x.take k))
      rw [h2, hasH_app, hasH_cons] at h3
      simp at h3
    · have hn2 : hasH (x.set k c) = false := by
        rw [hd, hasH_app, hasH_cons, hno.1, hno.2]
        simpa using h35
      rw [bef_app hn2] at h
      unfold sealL at h
      have h2 := List.append_cancel_left h
      injection h2 with _ h2
      have h3 := itoa_sum_inj h2
      rw [hd] at h3
      rw [hd0] at h3
      have e1 : (x.take k ++ x[k] :: x.drop (k + 1)).take k = x.take k := by rw [← hd0]
      have e2 : (x.take k ++ x[k] :: x.drop (k + 1)).drop (k + 1) = x.drop (k + 1) := by rw [← hd0]
      rw [e1, e2] at h3
      exact hc (sum_one h3)
  · subst heq
    have hs : (sealL x).set x.length c = x ++ c :: Lib.itoa (sumL x) := by
      unfold sealL; rw [List.set_append_right _ _ (Nat.le_refl _), Nat.sub_self]; rfl
    have hg : (sealL x)[x.length] = 35 := by
      have h1 : (sealL x)[x.length]? = some 35 := by unfold sealL; rw [List.getElem?_append_right (Nat.le_refl _), Nat.sub_self]; rfl
      rw [List.getElem?_eq_getElem hk] at h1
      injection h1
    rw [hg] at hc
    have hno : hasH ((sealL x).set x.length c) = false := by
      rw [hs, hasH_app, hasH_cons, hx, itoa_no]
      simpa using hc
    rw [bef_no hno] at h
    have h2 := congrArg List.length h
    rw [seal_len] at h2
    omega
  · have hs : (sealL x).set k c = x ++ 35 :: (Lib.itoa (sumL x)).set (k - x.length - 1) c := by
      unfold sealL
      rw [List.set_append_right _ _ (Nat.le_of_lt hgt)]
      obtain ⟨j, hj⟩ : ∃ j, k - x.length = j + 1 := ⟨k - x.length - 1, by omega⟩
      rw [hj, List.set_cons_succ]
      rfl
    have hb : bef ((sealL x).set k c) = x := by rw [hs]; exact bef_app hx
    rw [hb] at h
    have h2 : (sealL x)[k]? = ((sealL x).set k c)[k]? := by rw [← h]
    rw [List.getElem?_set_self hk, List.getElem?_eq_getElem hk] at h2
    injection h2 with h2
    exact hc h2.symm
theorem appendF_ok {s : ByteArray} (h : (appendF s).2 = true) : appendF s = (sealed s, true) ∧ hasH (bys s) = false ∧ (sealL (bys s)).length ≤ 4000 := by
  unfold appendF at *
  split at h
  · rename_i hh
    rw [if_pos hh]
    exact ⟨rfl, hh.1, hh.2⟩
  · cases h
theorem appendF_no {s : ByteArray} (h : (appendF s).2 = false) : appendF s = (⟨#[]⟩, false) := by
  unfold appendF at *
  split at h
  · cases h
  · rename_i hh
    rw [if_neg hh]
theorem verify_seal {s : ByteArray} (h : (appendF s).2 = true) : verifyF (sealed s) = (s, true) := by
  obtain ⟨h1, h2, h3⟩ := appendF_ok h
  have e : mkB (bef (bys (sealed s))) = s := by
    rw [bys_sealed]
    unfold sealL
    rw [bef_app h2, mkB_bys]
  unfold verifyF
  rw [e, h1]
  exact if_pos ⟨rfl, rfl⟩
theorem verify_tamper {s y : ByteArray} (h : (appendF s).2 = true) {k : Nat} (hk : k < (sealL (bys s)).length) {c : UInt8} (hc : c ≠ (sealL (bys s))[k]) (hy : bys y = (sealL (bys s)).set k c) : (verifyF y).2 = false := by
  obtain ⟨h1, h2, h3⟩ := appendF_ok h
  unfold verifyF
  rw [if_neg]
  rintro ⟨h4, h5⟩
  obtain ⟨h6, _, _⟩ := appendF_ok h4
  rw [h6] at h5
  have h7 := congrArg bys h5
  simp only at h7
  rw [bys_sealed, bys_mkB, hy] at h7
  exact tamper _ h2 k hk c hc h7
end S
end
section
namespace S
open Go AB
theorem implFormat_eq {x : Int} (h0 : -9223372036854775808 ≤ x) (h1 : x ≤ 9223372036854775807) : impl_FormatInt x = some (if -999999 ≤ x ∧ x ≤ 999999 then (num x, true) else (⟨#[]⟩, false)) := by
  refine Ret.eq ?_
  simp only [impl_FormatInt, ret_bnd]
  rw [in_eq, ret_some, itoa_eq h0 h1]
  simp only [ret_cnd, ret_bnd, ret_some, std_bnot']
  by_cases h : -999999 ≤ x ∧ x ≤ 999999 <;> simp [h]
theorem specFormat_eq {K : Nat} {x : Int} (hK : 10000000 ≤ K) (h0 : -1000000 ≤ x) (h1 : x ≤ 1000000) : spec_FormatInt K x = some (if -999999 ≤ x ∧ x ≤ 999999 then (num x, true) else (⟨#[]⟩, false)) := by
  refine Ret.eq ?_
  simp only [spec_FormatInt, ret_bnd]
  rw [l1In_eq, ret_some, l1Num_eq K K x (by unfold mN; split <;> omega) (by omega) (by omega)]
  simp only [ret_cnd, ret_bnd, ret_some, std_bnot']
  by_cases h : -999999 ≤ x ∧ x ≤ 999999 <;> simp [h]
theorem parse_eq {s : ByteArray} (h : (bys s).length ≤ 1000000) : x_ParseInt s = some (parse s) := by
  rw [x_ParseInt, if_pos (by show (bys s).length ≤ _; omega)]
theorem byteOf_int (z : Int) : AB.byteOf [.val (.int .u8 z)] = UInt8.ofNat z.toNat := rfl
theorem eq_self {a : Int} : std.eq a a = true := by rw [std_eq']; simp
/-- a text with one byte changed -/
theorem bys_tamper {y : ByteArray} {k : Nat} {r : Nat} {z : Int} (hz : z = (r : Int)) :
    bys (std.ofB (std.slen y) (fun k0 => [.val (.int .u8 (std.selI (std.eq k0 (k : Int)) z (std.sat y k0)))])) = (bys y).set k (UInt8.ofNat r) := by
  rw [bys_ofB, std_slen', Int.toNat_natCast]
  apply List.ext_getElem?
  intro j
  by_cases hj : j < (bys y).length
  · rw [List.getElem?_map, List.getElem?_range hj]
    simp only [Option.map, byteOf_int, std_selI', std_eq', decide_eq_true_eq]
    by_cases hjk : j = k
    · subst hjk
      rw [List.getElem?_set_self hj, if_pos (show Int.ofNat j = (j : Int) from rfl), hz, Int.toNat_natCast]
    · rw [List.getElem?_set_ne (fun e => hjk e.symm), if_neg (by show ¬ (j : Int) = k; omega), List.getElem?_eq_getElem hj]
      have := sat_get hj
      rw [show std.sat y (Int.ofNat j) = std.sat y (j : Int) from rfl, this, Int.toNat_natCast, UInt8.ofNat_toNat]
  · rw [List.getElem?_eq_none (by simp; omega), List.getElem?_eq_none (by simp; omega)]
set_option maxHeartbeats 1000000 in
theorem law_Strings (n : Int) (f : Int → Int) (hn0 : 0 ≤ n) (hf : ∀ i, 0 ≤ i → i < n → 0 ≤ f i ∧ f i ≤ 255) : laws_FnStrings 10000000 n f = some true := by
  refine Ret.eq ?_
  have hv : laws_vBig n f = some (decide (65536 < n)) := rfl
  simp only [laws_FnStrings]
  rw [hv]
  simp only [ret_bnd, ret_some, ret_cnd, decide_eq_true_eq, decide_eq_false_iff_not]
  refine ⟨fun _ => trivial, fun hn1 => ?_⟩
  have hc : Code n f := ⟨hn0, by omega, hf⟩
  refine (drawFormat_ret hc).mono ?_
  intro x ⟨hx0, hx1⟩
  rw [implFormat_eq (by omega) (by omega), specFormat_eq (K := 10000000) (by omega) hx0 hx1, ret_some, ret_some]
  obtain ⟨⟨t, b⟩, ht⟩ : ∃ p : ByteArray × Bool, p = (if -999999 ≤ x ∧ x ≤ 999999 then (num x, true) else (⟨#[]⟩, false)) := ⟨_, rfl⟩
  rw [← ht]
  simp only [ret_bnd]
  refine (drawParse_ret hc (K := 10000000) (by omega)).mono ?_
  intro u hu
  rw [parse_eq (s := u) (by omega), specParse_eq 10000000 u (by omega) (by omega), ret_some, ret_some]
  obtain ⟨p1, p2⟩ := parse u
  simp only [ret_bnd]
  refine (drawAppend_ret hc).mono ?_
  intro s hs
  rw [implAppend_eq 10000000 s (by omega) (by omega), specAppend_eq 10000000 s (by omega) (by omega), ret_some, ret_some]
  obtain ⟨⟨y, a⟩, hy⟩ : ∃ p, p = appendF s := ⟨_, rfl⟩
  rw [← hy]
  have htx : (bys t).length ≤ 1000000 ∧ (b = true → parse t = (x, true)) := by
    split at ht
    · rename_i hh
      cases ht
      have := num_size x (by omega) (by omega)
      exact ⟨by omega, fun _ => parse_num x hh.1 hh.2⟩
    · cases ht
      exact ⟨by decide, fun h => by cases h⟩
  have hpt := parse_eq (s := t) htx.1
  have hend : ((!a) = true → decide (y = (⟨#[]⟩ : ByteArray)) = true) ∧ ((!a) = false → Ret (impl_VerifyChecksum 10000000 y) fun x =>
      Ret (grd (std.makes (std.slen y) 1) <|
          bnd (laws_vAt n (fun k0 => f k0) 9) fun (x52 : Int) =>
          grd (std.nz (std.slen y)) <|
          grd (std.isin (std.rem .i64 x52 (std.slen y)) (std.slen y)) <|
          grd (std.isin (std.rem .i64 x52 (std.slen y)) (std.slen y)) <|
          bnd (laws_vAt n (fun k0 => f k0) 10) fun (x53 : Int) =>
          grd (std.nz 255) <|
          grd (std.isin (std.rem .i64 x52 (std.slen y)) (std.slen y)) <|
          grd (std.isin (std.rem .i64 x52 (std.slen y)) (std.slen y)) <|
          grd (∀ k0, std.isin k0 (std.slen y) → ∃ c : UInt8, (std.selI (std.eq k0 (std.rem .i64 x52 (std.slen y))) (std.bits .xor .u8 (std.sat y (std.rem .i64 x52 (std.slen y))) (std.conv .u8 (std.add .i64 1 (std.rem .i64 x53 255)))) (std.sat y k0) : Int) = (c.toNat : Int)) <|
          bnd (impl_VerifyChecksum 10000000 (std.ofB (std.slen y) (fun k0 => [.val (.int .u8 (std.selI (std.eq k0 (std.rem .i64 x52 (std.slen y))) (std.bits .xor .u8 (std.sat y (std.rem .i64 x52 (std.slen y))) (std.conv .u8 (std.add .i64 1 (std.rem .i64 x53 255)))) (std.sat y k0)))]))) fun x_1 =>
          cut (cnd x.2 (cnd (decide (x.1 = s)) (some (.inl (!x_1.2))) (some (.inl false))) (some (.inl false))) fun (x56 : Bool) => some x56) fun x => x = true) := by
    refine ⟨fun ha => ?_, fun ha => ?_⟩
    · have ha' : (appendF s).2 = false := by rw [← hy]; simpa using ha
      rw [appendF_no ha'] at hy
      cases hy
      rfl
    · have ha' : (appendF s).2 = true := by rw [← hy]; simpa using ha
      obtain ⟨h1, h2, h3⟩ := appendF_ok ha'
      rw [h1] at hy
      cases hy
      have hl : (bys (sealed s)).length = (sealL (bys s)).length := congrArg List.length (bys_sealed s)
      have hl0 := seal_len (bys s)
      rw [verify_eq _ _ (by omega) (by omega), verify_seal ha', ret_some]
      simp only [ret_grd, ret_bnd, std_slen']
      refine ⟨by rw [std_makes']; omega, (vAt_ret hc (by omega) (by omega)).mono ?_⟩
      intro x52 ⟨h4, h5⟩
      try simp only [ret_grd, ret_bnd]
      rw [std_rem']
      have h6 := Int.tmod_nonneg (bys (sealed s)).length h4
      have h7 := Int.tmod_lt_of_pos x52 (show (0 : Int) < (bys (sealed s)).length by omega)
      obtain ⟨k, hk⟩ := Int.eq_ofNat_of_zero_le h6
      rw [hk] at h7 ⊢
      have hk' : k < (bys (sealed s)).length := by omega
      refine ⟨by rw [std_nz']; omega, ⟨by omega, h7⟩, ⟨by omega, h7⟩, (vAt_ret hc (by omega) (by omega)).mono ?_⟩
      intro x53 ⟨h8, h9⟩
      have h10 := Int.tmod_nonneg 255 h8
      have h11 := Int.tmod_lt_of_pos x53 (show (0 : Int) < 255 by omega)
      have e1 : std.conv .u8 (std.add .i64 1 (std.rem .i64 x53 255)) = ((1 + x53.tmod 255).toNat : Int) := by
        rw [std_rem', std_add64 (by omega) (by omega)]
        show IntKind.wrap .u8 _ = _
        simp only [IntKind.wrap, IntKind.signed, IntKind.bits, Bool.false_and, Bool.false_eq_true, if_false]
        omega
      rw [e1, sat_get hk']
      obtain ⟨r, hr, hra, hrx⟩ := xor_u8 (bys (sealed s))[k].toNat (1 + x53.tmod 255).toNat (UInt8.toNat_lt _) (by omega) (by omega)
      rw [hrx]
      try simp only [ret_grd, ret_bnd]
      have hb := bys_tamper (y := sealed s) (k := k) (r := r) (z := (r : Int)) rfl
      rw [std_slen'] at hb
      have hrn : (UInt8.ofNat r).toNat = r := by rw [UInt8.toNat_ofNat']; omega
      refine ⟨by rw [std_nz']; omega, ⟨by omega, h7⟩, ⟨by omega, h7⟩, ?_, ?_⟩
      · intro k0 hk0
        rw [std_isin'] at hk0
        obtain ⟨j, rfl⟩ := Int.eq_ofNat_of_zero_le hk0.1
        rw [std_selI']
        split
        · exact ⟨UInt8.ofNat r, by rw [hrn]⟩
        · exact ⟨_, sat_get (by omega)⟩
      · have hv : (verifyF (std.ofB ((bys (sealed s)).length : Int) fun k0 => [.val (.int .u8 (std.selI (std.eq k0 (k : Int)) (r : Int) (std.sat (sealed s) k0)))])).2 = false := by
          have hk2 : k < (sealL (bys s)).length := by omega
          have hg : (bys (sealed s))[k] = (sealL (bys s))[k] := by
            have h1 := congrArg (fun l => l[k]?) (bys_sealed s)
            try simp only at h1
            rw [List.getElem?_eq_getElem hk', List.getElem?_eq_getElem hk2] at h1
            injection h1
          refine verify_tamper ha' hk2 (c := UInt8.ofNat r) ?_ (by rw [hb, bys_sealed])
          intro hcc
          apply hra
          rw [hg, ← hcc, hrn]
        rw [verify_eq _ _ (by omega) (by rw [hb, List.length_set]; omega), ret_some, hv]
        simp only [ret_cut, ret_cnd, ret_some, sum_l]
        simp
  clear hy
  cases b
  · simp only [hpt, ret_cut, ret_bnd, ret_cnd, ret_some, sum_l, std_bnot', std_beq', eq_self, seq_dec, decide_true, Bool.not_true, Bool.false_eq_true, false_imp_iff, true_and, true_imp_iff, and_true, reduceCtorEq]
    exact hend
  · rw [htx.2 rfl] at hpt
    simp only [hpt, ret_cut, ret_bnd, ret_cnd, ret_some, sum_l, std_bnot', std_beq', eq_self, seq_dec, decide_true, Bool.not_true, Bool.false_eq_true, false_imp_iff, true_and, true_imp_iff, and_true, reduceCtorEq]
    exact hend
end S
end
