/- Part 11 of the proof: an abstract machine over the translated code, the functions' contracts, and the plain law. -/
import Derived.Lib.ItoaNum
import Derived.Test.YtpodjaolnceggaaDoorM10
set_option linter.unusedSimpArgs false
set_option linter.unusedVariables false
set_option linter.unusedSectionVars false
section
namespace S
open Go AB
/-- the bytes of a text -/
def bys (s : ByteArray) : List UInt8 := s.data.toList
/-- it returns, and what it returns is such -/
def Ret {α : Type} (o : Option α) (Q : α → Prop) : Prop := ∃ x, o = some x ∧ Q x
def SumC {α β : Type} (A : α → Prop) (B : β → Prop) : α ⊕ β → Prop
  | .inl x => A x
  | .inr z => B z
theorem sum_l {α β : Type} {A : α → Prop} {B : β → Prop} {x : α} : SumC A B (.inl x) = A x := rfl
theorem sum_r {α β : Type} {A : α → Prop} {B : β → Prop} {z : β} : SumC A B (.inr z) = B z := rfl
theorem ret_some {α : Type} {x : α} {Q : α → Prop} : Ret (some x) Q ↔ Q x := ⟨fun ⟨_, h, q⟩ => by cases h; exact q, fun q => ⟨x, rfl, q⟩⟩
theorem ret_bnd {α β : Type} {a : Option α} {k : α → Option β} {Q : β → Prop} : Ret (bnd a k) Q ↔ Ret a (fun x => Ret (k x) Q) := by
  cases a with
  | none => exact ⟨fun ⟨_, h, _⟩ => (nomatch h), fun ⟨_, h, _⟩ => (nomatch h)⟩
  | some x => rw [ret_some]; rfl
theorem ret_grd {α : Type} {p : Prop} {k : Option α} {Q : α → Prop} : Ret (grd p k) Q ↔ p ∧ Ret k Q := by
  constructor
  · rintro ⟨x, h, q⟩
    obtain ⟨h1, h2⟩ := grd_inv h
    exact ⟨h1, x, h2, q⟩
  · rintro ⟨h, k⟩
    rw [grd_t h]
    exact k
theorem ret_cnd {α : Type} {c : Bool} {a b : Option α} {Q : α → Prop} : Ret (cnd c a b) Q ↔ (c = true → Ret a Q) ∧ (c = false → Ret b Q) := by
  cases c <;> simp [cnd]
theorem ret_cut {α β : Type} {a : Option (α ⊕ β)} {k : α → Option β} {Q : β → Prop} : Ret (cut a k) Q ↔ Ret a (SumC (fun x => Ret (k x) Q) Q) := by
  rcases a with _ | (x | z)
  · exact ⟨fun ⟨_, h, _⟩ => (nomatch h), fun ⟨_, h, _⟩ => (nomatch h)⟩
  · rw [ret_some, sum_l]; rfl
  · rw [ret_some, sum_r]; exact ret_some
theorem ret_out {α β : Type} {a : Option β} {Q : α ⊕ β → Prop} : Ret (out a) Q ↔ Ret a (fun z => Q (.inr z)) := by
  cases a with
  | none => exact ⟨fun ⟨_, h, _⟩ => (nomatch h), fun ⟨_, h, _⟩ => (nomatch h)⟩
  | some z => rw [ret_some]; exact ret_some
theorem Ret.mono {α : Type} {o : Option α} {Q R : α → Prop} (h : Ret o Q) (hi : ∀ x, Q x → R x) : Ret o R := by
  obtain ⟨x, hx, hq⟩ := h
  exact ⟨x, hx, hi x hq⟩
theorem Ret.eq {α : Type} {o : Option α} {v : α} (h : Ret o (fun x => x = v)) : o = some v := by
  obtain ⟨x, hx, rfl⟩ := h
  exact hx
theorem ret_eq {α : Type} {o : Option α} {v : α} (h : o = some v) : Ret o (fun x => x = v) := ⟨v, h, rfl⟩
theorem ret_of {α : Type} {o : Option α} {v : α} {Q : α → Prop} (h : o = some v) (hq : Q v) : Ret o Q := ⟨v, h, hq⟩
/-- a loop that keeps to an invariant and comes nearer to its end -/
theorem ret_loop {α β : Type} {step : α → Option (α ⊕ β)} (I : α → Prop) (m : α → Nat) {Q : β → Prop} {n : Nat} {x : α}
    (hx : I x) (hm : m x < n) (h : ∀ x, I x → Ret (step x) (SumC (fun y => I y ∧ m y < m x) Q)) : Ret (loopF step n x) Q := by
  refine loopF_some I m Q (fun x hI => ?_) n x hx hm
  obtain ⟨o, ho, hq⟩ := h x hI
  rcases o with y | z
  · exact .inl ⟨y, ho, hq⟩
  · exact .inr ⟨z, ho, hq⟩
theorem seq_dec (a b : ByteArray) : std.seq a b = decide (a = b) := by
  show (a.toList == b.toList) = _
  rw [ByteArray.toList_eq, ByteArray.toList_eq]
  by_cases h : a = b
  · subst h; simp
  · have : a.data ≠ b.data := fun e => h (by cases a; cases b; simp only [ByteArray.mk.injEq]; exact e)
    simp [h, this]
theorem std_wrap64 {x : Int} (h0 : -9223372036854775808 ≤ x) (h1 : x ≤ 9223372036854775807) : IntKind.wrap .i64 x = x := by
  rw [IntKind.wrap_i64]
  omega
theorem std_add64 {a b : Int} (h0 : -9223372036854775808 ≤ a + b) (h1 : a + b ≤ 9223372036854775807) : std.add .i64 a b = a + b := std_wrap64 h0 h1
theorem std_sub64 {a b : Int} (h0 : -9223372036854775808 ≤ a - b) (h1 : a - b ≤ 9223372036854775807) : std.sub .i64 a b = a - b := std_wrap64 h0 h1
theorem std_mul64 {a b : Int} (h0 : -9223372036854775808 ≤ a * b) (h1 : a * b ≤ 9223372036854775807) : std.mul .i64 a b = a * b := std_wrap64 h0 h1
theorem std_conv64 {a : Int} (h0 : -9223372036854775808 ≤ a) (h1 : a ≤ 9223372036854775807) : std.conv .i64 a = a := std_wrap64 h0 h1
theorem std_neg64 {a : Int} (h0 : -9223372036854775807 ≤ a) (h1 : a ≤ 9223372036854775808) : std.neg .i64 a = -a := by
  show IntKind.wrap .i64 (0 - a) = -a
  rw [std_wrap64 (by omega) (by omega)]; omega
theorem std_rem' {k : IntKind} {a b : Int} : std.rem k a b = a.tmod b := rfl
theorem std_lt' {a b : Int} : std.lt a b = decide (a < b) := rfl
theorem std_le' {a b : Int} : std.le a b = decide (a ≤ b) := rfl
theorem std_eq' {a b : Int} : std.eq a b = decide (a = b) := by
  show (a == b) = _
  by_cases h : a = b <;> simp [h]
theorem std_beq' {a b : Bool} : std.beq a b = decide (a = b) := by cases a <;> cases b <;> rfl
theorem std_bnot' {a : Bool} : std.bnot a = !a := rfl
theorem std_slen' {s : ByteArray} : std.slen s = ((bys s).length : Int) := rfl
theorem std_isin' {i n : Int} : std.isin i n = (0 ≤ i ∧ i < n) := rfl
theorem std_cut' {a b n : Int} : std.cut a b n = (0 ≤ a ∧ a ≤ b ∧ b ≤ n) := rfl
theorem std_nz' {b : Int} : std.nz b = (b ≠ 0) := rfl
theorem std_cats' {a b : ByteArray} : std.cats a b = (((bys a).length : Int) + (bys b).length ≤ 9223372036854775807) := rfl
theorem std_shok' {b : Int} : std.shok b = (0 ≤ b) := rfl
theorem std_makes' {n : Int} {b : Nat} : std.makes n b = (0 ≤ n ∧ n * (b : Int) ≤ 281474976710656 ∧ n ≤ 4611686018427387904) := rfl
theorem std_selI' {b : Bool} {x y : Int} : std.selI b x y = if b = true then x else y := rfl
theorem std_selS' {b : Bool} {x y : ByteArray} : std.selS b x y = if b = true then x else y := rfl
theorem bys_ext {a b : ByteArray} (h : bys a = bys b) : a = b := by
  cases a; cases b
  simp only [ByteArray.mk.injEq]
  exact Array.toList_inj.1 h
theorem bys_scat (a b : ByteArray) : bys (std.scat a b) = bys a ++ bys b := by
  show (a ++ b).data.toList = _
  simp [bys]
theorem sat_of {s : ByteArray} {k : Nat} {b : UInt8} (h : (bys s)[k]? = some b) : std.sat s (k : Int) = (b.toNat : Int) := by
  show ((s.data.getD (Int.toNat (k : Int)) 0).toNat : Int) = _
  have h' : s.data[k]? = some b := by simpa [bys] using h
  rw [Int.toNat_natCast, Array.getD_eq_getD_getElem?, h']
  rfl
theorem sat_get {s : ByteArray} {k : Nat} (h : k < (bys s).length) : std.sat s (k : Int) = (((bys s)[k]).toNat : Int) := sat_of (List.getElem?_eq_getElem h)
theorem bys_ssub {s : ByteArray} {a b : Int} : bys (std.ssub s a b) = ((bys s).drop a.toNat).take (b.toNat - a.toNat) := by
  show (s.extract a.toNat b.toNat).data.toList = _
  simp [bys]
end S
end
