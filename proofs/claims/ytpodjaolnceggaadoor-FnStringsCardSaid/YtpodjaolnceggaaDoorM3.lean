/- Part 3 of the proof: an abstract machine over the translated code, the functions' contracts, and the plain law. -/
import Derived.Laws.Entries
import Derived.Test.YtpodjaolnceggaaDoorM2
set_option linter.unusedSimpArgs false
set_option linter.unusedVariables false
set_option linter.unusedSectionVars false
section
namespace AB
open Go

def bitsI (op : BinOp) (k : IntKind) (x y : Int) : Int :=
  let a := BitVec.ofInt k.bits x
  let b := BitVec.ofInt k.bits y
  match op with
  | .and => k.wrap (a &&& b).toNat
  | .or => k.wrap (a ||| b).toNat
  | .xor => k.wrap (a ^^^ b).toNat
  | _ => k.wrap (a &&& ~~~b).toNat
def byteOf (cs : List AV) : UInt8 :=
  match cs with
  | [.val (.int .u8 n)] => UInt8.ofNat n.toNat
  | _ => 0
def std : Leaf where
  add k a b := k.wrap (a + b)
  sub k a b := k.wrap (a - b)
  mul k a b := k.wrap (a * b)
  quo k a b := k.wrap (a.tdiv b)
  rem _ a b := a.tmod b
  neg k a := k.wrap (0 - a)
  bits := bitsI
  shl k a b := k.wrap (a * 2 ^ (min b.toNat k.bits))
  shr k a b := a.fdiv (2 ^ (min b.toNat k.bits))
  lt a b := decide (a < b)
  le a b := decide (a ≤ b)
  eq a b := a == b
  beq a b := a == b
  bnot b := !b
  band b c := b && c
  conv k a := k.wrap a
  imin a b := if b < a then b else a
  imax a b := if a < b then b else a
  slen s := (s.size : Int)
  sat s i := ((s.data.getD i.toNat 0).toNat : Int)
  ssub s l h := s.extract l.toNat h.toNat
  scat a b := a ++ b
  seq a b := a.toList == b.toList
  slt a b := Op.bytesLess a.toList b.toList
  ofB n f := ⟨((List.range n.toNat).map fun (i : Nat) => byteOf (f (Int.ofNat i))).toArray⟩
  nadd a b := a + b
  nsub a b := a - b
  selI b x y := if b = true then x else y
  selS b x y := if b = true then x else y
  selB b x y := if b = true then x else y
  selF b f g := if b = true then f else g
  isin i n := 0 ≤ i ∧ i < n
  cut l h n := 0 ≤ l ∧ l ≤ h ∧ h ≤ n
  fits n m b := (n + m) * (b : Int) ≤ 140737488355328 ∧ n + m ≤ 4611686018427387904
  nz b := b ≠ 0
  makes n b := 0 ≤ n ∧ n * (b : Int) ≤ 281474976710656 ∧ n ≤ 4611686018427387904
  cats a b := (a.size : Int) + b.size ≤ 9223372036854775807
  shok b := 0 ≤ b

def tdOf (P : Program) (t : Nat) : TD :=
  match P.underlying t with
  | some .bool => .bool
  | some (.int k) => .int k
  | some .string => .str
  | some (.slice e) => .sl e
  | some (.array n e) => .arr n e
  | some (.struct fs) => .st (fs.toList.map fun f => (f.offset, f.type))
  | _ => .other
def isAggD : TypeDesc → Bool
  | .struct _ | .array .. => true
  | _ => false
/-- plain cells' types -/
def scalT (P : Program) (t : Nat) : Bool :=
  match P.underlying t with
  | some .bool | some (.int _) | some .string => true
  | _ => false
/-- the cells that are compared where two of the type are -/
def eqOf (P : Program) (t : Nat) : List (Nat × Nat) :=
  match P.underlying t with
  | some (.struct fs) => match fs.toList.all (fun f => f.name != "_" && scalT P f.type), P.stoodInHeld t, P.eqGuardType P.depth t with
    | true, false, false => fs.toList.map fun f => (f.offset, f.type)
    | _, _, _ => []
  | some (.array n e) => match scalT P e, (P.info? e).isSome, P.eqGuardType P.depth t with
    | true, true, false => (List.range n).map fun i => (i * P.cellsOf e, e)
    | _, _, _ => []
  | _ => []
def tiOf (P : Program) (t : Nat) : Option TI :=
  match P.info? t with
  | some i => match i.zero with
    | some z => match P.underlying t with
      | some u => match eqN z.cells.toList.length i.size with
        | false => none
        | true => some ⟨isAggD u, i.size, i.bytes, z.cells.toList, tdOf P t, eqOf P t⟩
      | none => none
    | none => none
  | none => none
def TOK (P : Program) (T : Nat → Option TI) : Prop := ∀ t ti, T t = some ti → tiOf P t = some ti

theorem getT_ok (P : Program) : ∀ (l : List (Nat × TI)), (l.map fun p => tiOf P p.1) = l.map (fun p => some p.2) → TOK P (fun t => getT t l)
  | [], _ => fun t ti h => by simp [getT] at h
  | (e, x) :: r, hl => fun t ti h => by
    simp only [List.map_cons, List.cons.injEq] at hl
    rcases Nat.decEq e t with hne | he
    · simp only [getT, beq_ne hne] at h
      exact getT_ok P r hl.2 t ti h
    · subst he
      simp only [getT, eqN_refl, Option.some.injEq] at h
      subst h
      exact hl.1

section
variable {w : World} {F : Nat → Prop} {β : Nat → Nat × Nat} {B : Nat → Blk}
theorem Rep.val_inv {v x : Value} (h : Rep w F β B (.val v) x) : x = v := by
  cases h with
  | cl h => cases h; rfl
theorem Rep.lst_inv {n : Int} {f : Int → List AV} {x : Value} (h : Rep w F β B (.lst n f) x) : RepC w F (.lst n f) x := by
  cases h with
  | cl h => exact h
theorem Rep.fp_inv {cs : List AV} {o : Nat} {x : Value} (h : Rep w F β B (.fp cs o) x) : RepC w F (.fp cs o) x := by
  cases h with
  | cl h => exact h
theorem RepC.lst_len {n : Int} {f : Int → List AV} {x : Value} (h : RepC w F (.lst n f) x) : ∃ (A : Option Addr) (len c : Nat), x = .slice A len c ∧ n = (len : Int) ∧ len ≤ c := by
  cases h with
  | lstE f A c => exact ⟨A, 0, c, rfl, rfl, Nat.zero_le _⟩
  | lst len n f blk off c sz us hn _ hlc _ _ _ _ => exact ⟨_, len, c, rfl, hn, hlc⟩
theorem Rep.agg_inv {cs : List AV} {x : Value} (h : Rep w F β B (.agg cs) x) :
    ∃ (vs : Array Value) (us : Nat → Value), x = .agg vs ∧ vs.size = cs.length ∧ (∀ j a, cs[j]? = some a → vs[j]? = some (us j)) ∧ (∀ j a, cs[j]? = some a → Rep w F β B a (us j)) := by
  cases h with
  | cl h =>
    cases h with
    | agg cs vs us hl hc hr => exact ⟨vs, us, rfl, hl, hc, fun j a ha => .cl (hr j a ha)⟩
  | agg cs vs us hl hc hr => exact ⟨vs, us, rfl, hl, hc, hr⟩
theorem Rep.tup_inv {cs : List AV} {x : Value} (h : Rep w F β B (.tup cs) x) :
    ∃ (vs : Array Value) (us : Nat → Value), x = .tuple vs ∧ vs.size = cs.length ∧ (∀ j a, cs[j]? = some a → vs[j]? = some (us j)) ∧ (∀ j a, cs[j]? = some a → Rep w F β B a (us j)) := by
  cases h with
  | cl h =>
    cases h with
    | tup cs vs us hl hc hr => exact ⟨vs, us, rfl, hl, hc, fun j a ha => .cl (hr j a ha)⟩
  | tup cs vs us hl hc hr => exact ⟨vs, us, rfl, hl, hc, hr⟩
theorem Rep.clo_inv {f : Nat} {cs : List AV} {x : Value} (h : Rep w F β B (.clo f cs) x) :
    ∃ (vs : Array Value) (us : Nat → Value), x = .func (.func f) #[] vs ∧ vs.size = cs.length ∧ (∀ j a, cs[j]? = some a → vs[j]? = some (us j)) ∧ (∀ j a, cs[j]? = some a → Rep w F β B a (us j)) := by
  cases h with
  | cl h =>
    cases h with
    | clo f cs vs us hl hc hr => exact ⟨vs, us, rfl, hl, hc, fun j a ha => .cl (hr j a ha)⟩
  | clo f cs vs us hl hc hr => exact ⟨vs, us, rfl, hl, hc, hr⟩
theorem Rep.sl_inv {d g : Nat} {n : Int} {x : Value} (h : Rep w F β B (.sl d g n) x) : g ≤ (B d).gen ∧ (∀ fz fx sz n0 f, B d = .arr fz fx g sz n0 f → n ≤ n0) ∧
    (∀ fz fx sz f, B d = .arr fz fx g sz n f → x = .slice (some ⟨(β d).1, 0, none⟩) n.toNat (β d).2) := by
  cases h with
  | cl h => cases h
  | sl d g n v h0 h1 h2 h3 => exact ⟨h1, h2, h3⟩
theorem Rep.pb_inv {d g o : Nat} {x : Value} (h : Rep w F β B (.pb d g o) x) : g ≤ (B d).gen ∧ (∀ fz cs, B d = .box fz g cs → x = .pointer (some ⟨(β d).1, o, none⟩)) := by
  cases h with
  | cl h => cases h
  | pb d g o v h0 h1 h3 => exact ⟨h1, h3⟩
theorem Rep.pe_inv {d g : Nat} {n i : Int} {o : Nat} {x : Value} (h : Rep w F β B (.pe d g n i o) x) : g ≤ (B d).gen ∧ (∀ fz fx sz n0 f, B d = .arr fz fx g sz n0 f → n ≤ n0) ∧
    (∀ fz fx sz f, B d = .arr fz fx g sz n f → 0 ≤ i → i < n → x = .pointer (some ⟨(β d).1, i.toNat * sz + o, none⟩)) := by
  cases h with
  | cl h => cases h
  | pe d g n i o v h0 h1 h2 h3 => exact ⟨h1, h2, h3⟩
end

/-- the operation yields u and leaves the world w' -/
def Runs (P : Program) (o : Oper) (a : Act) (w : World) (u : Value) (w' : World) : Prop :=
  (execOp a.eval o).run P w = .ok (.value u) w' ∨ ((execOp a.eval o).run P w = .ok .skip w' ∧ u = undef)

theorem kEq_eq {k k' : IntKind} (h : kEq k k' = true) : k = k' := by
  cases k <;> cases k' <;> first | rfl | (simp [kEq] at h)

theorem bytesLess_total : ∀ (x y : List UInt8), (Op.bytesLess x y || x == y) = !Op.bytesLess y x
  | [], [] => rfl
  | [], _ :: _ => rfl
  | _ :: _, [] => rfl
  | a :: x, b :: y => by
    have ih := bytesLess_total x y
    simp only [Op.bytesLess]
    by_cases h1 : a < b
    · have h2 : ¬ b < a := by rw [UInt8.lt_iff_toNat_lt] at *; omega
      have h3 : ¬ b = a := by rintro rfl; exact h2 h1
      simp [h1, h2, h3]
    · by_cases h2 : b < a
      · have h3 : ¬ a = b := by rintro rfl; exact h1 h2
        simp [h1, h2, h3]
      · have h3 : a = b := by
          rw [UInt8.lt_iff_toNat_lt] at *
          exact UInt8.toNat_inj.1 (by omega)
        subst h3
        simpa [h1] using ih

theorem tok_info {P : Program} {T : Nat → Option TI} (hT : TOK P T) {t : Nat} {ti : TI} (h : T t = some ti) : ∃ i z, P.info? t = some i ∧ i.zero = some z ∧ i.size = ti.size ∧ i.bytes = ti.bytes ∧
    z.cells.toList = ti.zero ∧ tdOf P t = ti.desc ∧ ∃ u, P.underlying t = some u ∧ isAggD u = ti.agg := by
  have h1 := hT t ti h
  unfold tiOf at h1
  cases hi : P.info? t with
  | none => simp [hi] at h1
  | some i =>
    cases hz : i.zero with
    | none => simp [hi, hz] at h1
    | some z =>
      cases hu : P.underlying t with
      | none => simp [hi, hz, hu] at h1
      | some u =>
        simp only [hi, hz, hu] at h1
        split at h1
        · cases h1
        · simp only [Option.some.injEq] at h1
          subst h1
          exact ⟨i, z, rfl, hz, rfl, rfl, rfl, rfl, u, rfl, rfl⟩
theorem tok_eq {P : Program} {T : Nat → Option TI} (hT : TOK P T) {t : Nat} {ti : TI} (h : T t = some ti) : eqOf P t = ti.eqf := by
  have h1 := hT t ti h
  unfold tiOf at h1
  split at h1
  · split at h1
    · split at h1
      · split at h1
        · cases h1
        · simp only [Option.some.injEq] at h1
          subst h1
          rfl
      · cases h1
    · cases h1
  · cases h1
theorem tok_zero {P : Program} {T : Nat → Option TI} (hT : TOK P T) {t : Nat} {ti : TI} (h : T t = some ti) : ti.zero.length = ti.size := by
  have h1 := hT t ti h
  unfold tiOf at h1
  split at h1
  · rename_i i hi
    split at h1
    · rename_i z hz
      split at h1
      · rename_i u hu
        split at h1
        · cases h1
        · rename_i hb
          simp only [Option.some.injEq] at h1
          subst h1
          exact eqN_eq hb
      · cases h1
    · cases h1
  · cases h1
section
variable {P : Program} {t : Nat}
theorem td_sl {e : Nat} (h : tdOf P t = .sl e) : P.underlying t = some (.slice e) := by
  unfold tdOf at h; split at h <;> first | cases h | skip
  simp_all
theorem td_str (h : tdOf P t = .str) : P.underlying t = some .string := by
  unfold tdOf at h; split at h <;> first | cases h | skip
  simp_all
theorem td_bool (h : tdOf P t = .bool) : P.underlying t = some .bool := by
  unfold tdOf at h; split at h <;> first | cases h | skip
  simp_all
theorem td_int {k : IntKind} (h : tdOf P t = .int k) : P.underlying t = some (.int k) := by
  unfold tdOf at h; split at h <;> first | cases h | skip
  simp_all
theorem td_arr {n e : Nat} (h : tdOf P t = .arr n e) : P.underlying t = some (.array n e) := by
  unfold tdOf at h; split at h <;> first | cases h | skip
  simp_all
theorem td_st {l : List (Nat × Nat)} (h : tdOf P t = .st l) : ∃ fs, P.underlying t = some (.struct fs) ∧ fs.toList.map (fun f => (f.offset, f.type)) = l := by
  unfold tdOf at h; split at h <;> first | cases h | skip
  simp_all
end

theorem str_sound {P : Program} {w : World} {op : BinOp} {t : TypeId} {a b : ByteArray} {pre : Prop} {v : AV} {upd : List (Nat × Blk)} {rd : List Nat}
    (hs : inStr std op a b = .ok pre v upd rd) (hp : pre) : upd = [] ∧ ∃ c, v = .val c ∧ (binOp op t (.string a) (.string b)).run P w = .ok c w := by
  cases op <;> simp only [inStr, SR.ok.injEq, reduceCtorEq] at hs <;> obtain ⟨h1, rfl, rfl, -⟩ := hs <;> subst h1 <;> refine ⟨rfl, _, rfl, ?_⟩
  · have hz : (a.size : Int) + b.size ≤ 9223372036854775807 := hp
    have hz' : ¬ ((a.size + b.size : Nat) : Int) > IntKind.i64.max := by
      simp only [IntKind.max, IntKind.signed, IntKind.bits]; simp; omega
    simp only [binOp, Op.stringOp, hz', if_false, Sem.run_pure, std]
  · simp [binOp, Op.stringOp, std]
  · simp [binOp, Op.stringOp, std]
  · simp [binOp, Op.stringOp, std]
  · simp only [binOp, Op.stringOp, std, bytesLess_total, Sem.run_pure]
  · simp only [binOp, Op.stringOp, std, bytesLess_total, Sem.run_pure, Bool.not_not]
  · simp [binOp, Op.stringOp, std]
theorem int_sound {P : Program} {w : World} {op : BinOp} {t : TypeId} {k : IntKind} {a b : Int} {pre : Prop} {v : AV} {upd : List (Nat × Blk)} {rd : List Nat}
    (hs : inInt std op k a b = .ok pre v upd rd) (hp : pre) : upd = [] ∧ ∃ c, v = .val c ∧ (binOp op t (.int k a) (.int k b)).run P w = .ok c w := by
  cases op <;> simp only [inInt, SR.ok.injEq, reduceCtorEq] at hs <;> obtain ⟨h1, rfl, rfl, -⟩ := hs <;> subst h1 <;> refine ⟨rfl, _, rfl, ?_⟩
  case quo => have hz : b ≠ 0 := hp; simp [binOp, Op.intDiv, std, hz]
  case rem => have hz : b ≠ 0 := hp; simp [binOp, Op.intDiv, std, hz]
  all_goals first
    | (simp [binOp, Op.intArith, Op.intCmp, Op.intBits, std, bitsI]; done)
    | (simp [binOp, Op.intCmp, std, bne])

theorem run_equal_bool {P : Program} {t : TypeId} (h : P.underlying t = some .bool) (x y : Bool) (w : World) : (Op.equal t (.bool x) (.bool y)).run P w = .ok (x == y) w := by
  show (Op.equalIn (9999 + 1) t (.bool x) (.bool y)).run P w = _
  rw [Op.equalIn]
  simp only [Sem.run_bind, run_underlying h, Result.andThen_ok, Sem.run_pure]

/-- Pure operations: the value is there, no memory has turned. -/
theorem bin_sound {P : Program} {T : Nat → Option TI} (hT : TOK P T) {o : Oper} {a : Act} {w : World} {op : BinOp} {t u : TypeId} {x y : Operand} (ho : o.op = .binOp op t x y u) {X Y : AV} {pre : Prop} {v : AV} {upd : List (Nat × Blk)} {rd : List Nat}
    (hs : binF std T t op X Y = .ok pre v upd rd) (hp : pre) (hX : ∀ c, X = .val c → a.eval x = c) (hY : ∀ c, Y = .val c → a.eval y = c) :
    upd = [] ∧ ∃ c, v = .val c ∧ (execOp a.eval o).run P w = .ok (.value c) w := by
  have fin : ∀ (c cx cy : Value), X = .val cx → Y = .val cy → eqGuard op t x y cx cy = pure () → (binOp op t cx cy).run P w = .ok c w → (execOp a.eval o).run P w = .ok (.value c) w := by
    intro c cx cy hx hy hg hb
    unfold execOp
    simp only [ho, hX _ hx, hY _ hy, hg]
    simp only [Sem.run_bind, Sem.run_pure, Result.andThen_ok, hb]
  unfold binF at hs
  split at hs
  · rename_i b
    simp only [SR.ok.injEq] at hs
    obtain ⟨h1, rfl, rfl, -⟩ := hs
    subst h1
    refine ⟨rfl, _, rfl, fin _ _ _ rfl rfl (by simp [eqGuard]) ?_⟩
    have : ¬ b < 0 := Int.not_lt.2 hp
    simp [binOp, Op.shift, this, std]
  · rename_i b
    simp only [SR.ok.injEq] at hs
    obtain ⟨h1, rfl, rfl, -⟩ := hs
    subst h1
    refine ⟨rfl, _, rfl, fin _ _ _ rfl rfl (by simp [eqGuard]) ?_⟩
    have : ¬ b < 0 := Int.not_lt.2 hp
    simp [binOp, Op.shift, this, std]
  · split at hs
    · rename_i hk
      obtain rfl := kEq_eq hk
      obtain ⟨h1, c, h2, h3⟩ := int_sound (P := P) (w := w) (t := t) hs hp
      exact ⟨h1, c, h2, fin _ _ _ rfl rfl (by simp [eqGuard]) h3⟩
    · cases hs
  · obtain ⟨h1, c, h2, h3⟩ := str_sound (P := P) (w := w) (t := t) hs hp
    exact ⟨h1, c, h2, fin _ _ _ rfl rfl (by simp [eqGuard]) h3⟩
  · split at hs
    · rename_i hb
      simp only [SR.ok.injEq] at hs
      obtain ⟨h1, rfl, rfl, -⟩ := hs
      have hu : P.underlying t = some .bool := by
        unfold isBool at hb
        split at hb
        · rename_i ti hti
          obtain ⟨_, _, _, _, _, _, _, hd, _⟩ := tok_info hT hti
          split at hb
          · rename_i hdd; exact td_bool (hd.trans hdd)
          · cases hb
        · cases hb
      refine ⟨rfl, _, rfl, fin _ _ _ rfl rfl (by simp [eqGuard]) ?_⟩
      simp [binOp, run_equal_bool hu, std]
    · cases hs
  · split at hs
    · rename_i hb
      simp only [SR.ok.injEq] at hs
      obtain ⟨h1, rfl, rfl, -⟩ := hs
      have hu : P.underlying t = some .bool := by
        unfold isBool at hb
        split at hb
        · rename_i ti hti
          obtain ⟨_, _, _, _, _, _, _, hd, _⟩ := tok_info hT hti
          split at hb
          · rename_i hdd; exact td_bool (hd.trans hdd)
          · cases hb
        · cases hb
      refine ⟨rfl, _, rfl, fin _ _ _ rfl rfl (by simp [eqGuard]) ?_⟩
      simp [binOp, run_equal_bool hu, std]
    · cases hs
  · cases hs


/-! ### One of two -/
/-- whatever reads as the one reads as the other -/
inductive Wkr : AV → AV → Prop
  | refl (x : AV) : Wkr x x
  | any (x : AV) : Wkr x .any
  | lst (n : Int) (f f' : Int → List AV) (hl : ∀ i, (f i).length = (f' i).length) (h : ∀ i (j : Nat) (a b : AV), (f i)[j]? = some a → (f' i)[j]? = some b → Wkr a b) : Wkr (.lst n f) (.lst n f')
theorem Wkr.trans {x y z : AV} (h : Wkr x y) : Wkr y z → Wkr x z := by
  induction h generalizing z with
  | refl => exact fun k => k
  | any x =>
    intro k
    cases k with
    | refl => exact .any _
    | any => exact .any _
  | lst n f f' hl hh ih =>
    intro k
    cases k with
    | refl => exact .lst n f f' hl hh
    | any => exact .any _
    | lst _ _ f'' hl' hh' =>
      refine .lst n f f'' (fun i => (hl i).trans (hl' i)) (fun i j a c ha hc => ?_)
      have hj : j < (f' i).length := by rw [← hl i]; exact (List.getElem?_eq_some_iff.1 ha).1
      exact ih i j a _ ha (List.getElem?_eq_getElem hj) (hh' i j _ c (List.getElem?_eq_getElem hj) hc)
theorem Wkr.rep {x y : AV} (h : Wkr x y) {w : World} {F : Nat → Prop} : ∀ {u : Value}, RepC w F x u → RepC w F y u := by
  induction h with
  | refl => exact fun hr => hr
  | any => exact fun _ => .any _
  | lst n f f' hl hh ih =>
    intro u hr
    have get : ∀ {i : Int} {j : Nat} {b : AV}, (f' i)[j]? = some b → ∃ a, (f i)[j]? = some a := fun {i j b} hb =>
      ⟨_, List.getElem?_eq_getElem (by rw [hl i]; exact (List.getElem?_eq_some_iff.1 hb).1)⟩
    cases hr with
    | lstE f A c => exact .lstE f' A c
    | lst len n f blk off c sz us hn hF hlc hl' hc h1 hrr =>
      refine .lst len n f' blk off c sz us hn hF hlc (fun i hi => by rw [← hl]; exact hl' i hi) (fun i hi j b hb => ?_) (fun i hi j b hb => ?_) (fun i hi j b hb => ?_)
      all_goals obtain ⟨a, ha⟩ := get hb
      · exact hc i hi j a ha
      · exact h1 i hi j a ha
      · exact ih i j a b ha hb (hrr i hi j a ha)
theorem kEq_same {k k' : IntKind} (h : kEq k k' = true) : k = k' := by cases k <;> cases k' <;> first | rfl | (simp [kEq] at h)
theorem selA0_t (x y : AV) : Wkr x (selA0 std true x y) := by
  unfold selA0
  split
  · split
    · exact .refl _
    · exact .any _
  · exact .refl _
  · exact .refl _
  · exact .refl _
  · exact .any _
theorem selA0_f (x y : AV) : Wkr y (selA0 std false x y) := by
  unfold selA0
  split
  · split
    · rename_i h
      obtain rfl := kEq_same h
      exact .refl _
    · exact .any _
  · exact .refl _
  · exact .refl _
  · exact .refl _
  · exact .any _
theorem selZ0_get {b : Bool} : ∀ {xs ys : List AV}, xs.length = ys.length → (selZ0 std b xs ys).length = xs.length ∧ ∀ (j : Nat) (x y z : AV), xs[j]? = some x → ys[j]? = some y → (selZ0 std b xs ys)[j]? = some z → z = selA0 std b x y
  | [], [], _ => ⟨rfl, by simp⟩
  | x :: r, y :: s, h => by
    obtain ⟨h1, h2⟩ := selZ0_get (b := b) (xs := r) (ys := s) (by simpa using h)
    simp only [selZ0]
    refine ⟨by simp [h1], fun j u v z hu hv hz => ?_⟩
    cases j with
    | zero => simp only [List.getElem?_cons_zero, Option.some.injEq] at hu hv hz; subst hu; subst hv; exact hz.symm
    | succ j => exact h2 j u v z (by simpa using hu) (by simpa using hv) (by simpa using hz)
  | [], _ :: _, h => by simp at h
  | _ :: _, [], h => by simp at h
theorem selA_t (x y : AV) : Wkr x (selA std true x y) := by
  unfold selA
  split
  · rename_i n f m g
    refine .lst n f _ (fun i => ?_) (fun i j a b ha hb => ?_)
    · split
      · rename_i h
        have h := eqN_eq h
        rw [lenL_eq, lenL_eq] at h
        exact (selZ0_get h).1.symm
      · rfl
    · split at hb
      · rename_i h
        have h := eqN_eq h
        rw [lenL_eq, lenL_eq] at h
        have hj : j < (g i).length := by rw [← h]; exact (List.getElem?_eq_some_iff.1 ha).1
        rw [(selZ0_get h).2 j a _ b ha (List.getElem?_eq_getElem hj) hb]
        exact selA0_t _ _
      · have : std.selF true f g i = f i := rfl
        rw [this, ha] at hb
        cases hb; exact .refl _
  · exact selA0_t _ _
theorem selA_f (x y : AV) : Wkr y (selA std false x y) := by
  unfold selA
  split
  · rename_i n f m g
    refine .lst m g _ (fun i => ?_) (fun i j a b ha hb => ?_)
    · split
      · rename_i h
        have h := eqN_eq h
        rw [lenL_eq, lenL_eq] at h
        rw [(selZ0_get h).1, h]
      · rfl
    · split at hb
      · rename_i h
        have h := eqN_eq h
        rw [lenL_eq, lenL_eq] at h
        have hj : j < (f i).length := by rw [h]; exact (List.getElem?_eq_some_iff.1 ha).1
        rw [(selZ0_get h).2 j _ a b (List.getElem?_eq_getElem hj) ha hb]
        exact selA0_f _ _
      · have : std.selF false f g i = g i := rfl
        rw [this, ha] at hb
        cases hb; exact .refl _
  · exact selA0_f _ _
theorem selL_t : ∀ (sz : Nat) (xs ys : List AV), xs.length = sz → (selL std sz true xs ys).length = sz ∧ ∀ (j : Nat) (z : AV), (selL std sz true xs ys)[j]? = some z → ∃ x, xs[j]? = some x ∧ Wkr x z
  | 0, xs, ys, h => by
    have : xs = [] := List.eq_nil_of_length_eq_zero h
    subst this
    exact ⟨rfl, fun j z hz => by simp [selL] at hz⟩
  | n + 1, [], ys, h => by simp at h
  | n + 1, x :: r, y :: s, h => by
    obtain ⟨h1, h2⟩ := selL_t n r s (by simpa using h)
    simp only [selL]
    refine ⟨by simp [h1], fun j z hz => ?_⟩
    cases j with
    | zero => simp only [List.getElem?_cons_zero, Option.some.injEq] at hz; subst hz; exact ⟨x, rfl, selA_t x y⟩
    | succ j => exact h2 j z (by simpa using hz)
  | n + 1, x :: r, [], h => by
    obtain ⟨h1, h2⟩ := selL_t n r [] (by simpa using h)
    simp only [selL]
    refine ⟨by simp [h1], fun j z hz => ?_⟩
    cases j with
    | zero => simp only [List.getElem?_cons_zero, Option.some.injEq] at hz; subst hz; exact ⟨x, rfl, .refl x⟩
    | succ j => exact h2 j z (by simpa using hz)
theorem selL_f : ∀ (sz : Nat) (xs ys : List AV), ys.length = sz → (selL std sz false xs ys).length = sz ∧ ∀ (j : Nat) (z : AV), (selL std sz false xs ys)[j]? = some z → ∃ y, ys[j]? = some y ∧ Wkr y z
  | 0, xs, ys, h => by
    have : ys = [] := List.eq_nil_of_length_eq_zero h
    subst this
    exact ⟨rfl, fun j z hz => by simp [selL] at hz⟩
  | n + 1, xs, [], h => by simp at h
  | n + 1, x :: r, y :: s, h => by
    obtain ⟨h1, h2⟩ := selL_f n r s (by simpa using h)
    simp only [selL]
    refine ⟨by simp [h1], fun j z hz => ?_⟩
    cases j with
    | zero => simp only [List.getElem?_cons_zero, Option.some.injEq] at hz; subst hz; exact ⟨y, rfl, selA_f x y⟩
    | succ j => exact h2 j z (by simpa using hz)
  | n + 1, [], y :: s, h => by
    obtain ⟨h1, h2⟩ := selL_f n [] s (by simpa using h)
    simp only [selL]
    refine ⟨by simp [h1], fun j z hz => ?_⟩
    cases j with
    | zero => simp only [List.getElem?_cons_zero, Option.some.injEq] at hz; subst hz; exact ⟨y, rfl, .refl y⟩
    | succ j => exact h2 j z (by simpa using hz)
end AB
end
section
namespace AB
open Go

def isLive : Blk → Prop
  | .box false _ _ => True
  | .arr false _ _ _ _ _ => True
  | _ => False
theorem live_iff {B : Nat → Blk} {d : Nat} : live B d ↔ isLive (B d) := by
  unfold live isLive; cases B d with
  | none => rfl
  | box fz _ _ => cases fz <;> rfl
  | arr fz _ _ _ _ _ => cases fz <;> rfl
theorem BlkOK.lt {w : World} {F : Nat → Prop} {β : Nat → Nat × Nat} {B : Nat → Blk} {d : Nat} (h : BlkOK w F β B d) (hn : B d ≠ .none) : (β d).1 < w.heap.size := by
  unfold BlkOK at h
  cases hb : B d with
  | none => exact absurd hb hn
  | box fz g cs =>
    rw [hb] at h
    obtain ⟨c, t, fr, h1, _⟩ := h
    exact (Array.getElem?_eq_some_iff.1 h1).1
  | arr fz fx g sz n f =>
    rw [hb] at h
    obtain ⟨c, t, fr, len, _, h1, _⟩ := h
    exact (Array.getElem?_eq_some_iff.1 h1).1

/-- One own block has turned, or is new. -/
theorem Rel.one {cx : Cx} {β β' : Nat → Nat × Nat} {σ : St} {a : Act} {w w' : World} (h : Rel cx β σ a w) {d : Nat} {x : Blk} {dst : Option Nat} {v : AV} {u : Value}
    (hβ : ∀ e, e ≠ d → β' e = β e) (hl : isLive x)
    (hh : ∀ k, k < w.heap.size → (live σ.B d → k ≠ (β d).1) → w'.heap[k]? = w.heap[k]?)
    (hd : (w.heap.size ≤ (β' d).1) ∨ (live σ.B d ∧ (β' d).1 = (β d).1))
    (hk : Keep β σ.B β' (fun e => getB e (setB d x σ.b)))
    (hx : (∀ b, Fr cx w β σ.B b → Fr cx w' β' (fun e => getB e (setB d x σ.b)) b) → (∀ b, Fr cx w β σ.B b → ∀ o, w'.cell? ⟨b, o, none⟩ = w.cell? ⟨b, o, none⟩) →
      BlkOK w' (Fr cx w' β' (fun e => getB e (setB d x σ.b))) β' (fun e => getB e (setB d x σ.b)) d)
    (hv : (∀ b, Fr cx w β σ.B b → Fr cx w' β' (fun e => getB e (setB d x σ.b)) b) → (∀ b, Fr cx w β σ.B b → ∀ o, w'.cell? ⟨b, o, none⟩ = w.cell? ⟨b, o, none⟩) →
      Rep w' (Fr cx w' β' (fun e => getB e (setB d x σ.b))) β' (fun e => getB e (setB d x σ.b)) v u)
    (hos : w'.os = w.os) (htape : w'.tape = w.tape) (hout : w'.output = w.output) (hsize : w.heap.size ≤ w'.heap.size) :
    Rel cx β' ((σ.put dst v).upd [(d, x)]) (a.put dst u) w' := by
  have hB : ∀ e, e ≠ d → getB e (setB d x σ.b) = σ.B e := fun e he => by rw [getB_setB, if_neg he]; rfl
  have hBd : getB d (setB d x σ.b) = x := by rw [getB_setB, if_pos rfl]
  have hlive : ∀ e, e ≠ d → (live (fun e => getB e (setB d x σ.b)) e ↔ live σ.B e) := fun e he => by rw [live_iff, live_iff]; show isLive (getB e _) ↔ _; rw [hB e he]
  have hlt : ∀ e, σ.B e ≠ .none → (β e).1 < w.heap.size := fun e he => (h.blk e).lt he
  have hn : ∀ e, live σ.B e → σ.B e ≠ .none := fun e he hc => by rw [live_iff, hc] at he; exact he
  have hne : ∀ e, e ≠ d → σ.B e ≠ .none → live σ.B d → (β e).1 ≠ (β d).1 := by
    intro e he hen hld heq
    by_cases hle : live σ.B e
    · exact he (h.inj e d hle hld heq)
    · exact (h.fro e hen hle).2.2 d hld heq.symm
  have hF : ∀ b, Fr cx w β σ.B b → Fr cx w' β' (fun e => getB e (setB d x σ.b)) b := by
    rintro b ⟨h1, h2, h3⟩
    refine ⟨h1, Nat.lt_of_lt_of_le h2 hsize, fun e he => ?_⟩
    by_cases hed : e = d
    · subst hed
      rcases hd with hd | ⟨hd1, hd2⟩
      · omega
      · rw [hd2]; exact h3 _ hd1
    · rw [hβ e hed]
      exact h3 e ((hlive e hed).1 he)
  have hw : ∀ b, Fr cx w β σ.B b → ∀ o, w'.cell? ⟨b, o, none⟩ = w.cell? ⟨b, o, none⟩ := fun b hb o =>
    World.cell?_of_block (a := ⟨b, o, none⟩) (hh b hb.2.1 (fun hl => fun e => hb.2.2 d hl e.symm))
  have hs : (σ.put dst v).b = σ.b := by cases dst <;> rfl
  have key := h.step (w' := w') (β' := β') (dst := dst) (v := v) (u := u) (b' := setB d x σ.b) hF hw hk (hv hF hw) (fun e => ?_) (fun e he => ?_) (fun e e' he he' heq => ?_) (fun e he hne' => ?_)
    ⟨hos, htape, hout, hsize, fun k hk hX => hh k (Nat.lt_of_lt_of_le hk h.bas) (fun hl heq => ?_)⟩
  · simp only [St.upd, hs]
    exact key
  · by_cases hed : e = d
    · subst hed; exact .inr (hx hF hw)
    · refine .inl ⟨hB e hed, hβ e hed, fun hen => hh _ (hlt e hen) (fun hl => hne e hed hen hl)⟩
  · by_cases hed : e = d
    · subst hed
      rcases hd with hd | ⟨hd1, hd2⟩
      · exact .inl (Nat.le_trans h.bas hd)
      · rw [hd2]; exact h.own _ hd1
    · rw [hβ e hed]; exact h.own e ((hlive e hed).1 he)
  · by_cases hed : e = d
    · by_cases hed' : e' = d
      · rw [hed, hed']
      · exfalso
        have hle' := (hlive e' hed').1 he'
        rw [hβ e' hed', hed] at heq
        have := hlt e' (hn e' hle')
        rcases hd with hd | ⟨hd1, hd2⟩
        · omega
        · rw [hd2] at heq; exact hed' (h.inj e' d hle' hd1 heq.symm)
    · have hle := (hlive e hed).1 he
      by_cases hed' : e' = d
      · exfalso
        rw [hβ e hed, hed'] at heq
        have := hlt e (hn e hle)
        rcases hd with hd | ⟨hd1, hd2⟩
        · omega
        · rw [hd2] at heq; exact hed (h.inj e d hle hd1 heq)
      · rw [hβ e hed, hβ e' hed'] at heq
        exact h.inj e e' hle ((hlive e' hed').1 he') heq
  · by_cases hed : e = d
    · subst hed
      exact absurd (live_iff.2 (by show isLive (getB e _); rw [hBd]; exact hl)) hne'
    · rw [hβ e hed]
      exact hF _ (h.fro e (by rw [← hB e hed]; exact he) (fun hc => hne' ((hlive e hed).2 hc)))
  · rcases h.own d hl with h1 | ⟨_, h1⟩
    · omega
    · exact hX (heq ▸ h1)

theorem Keep.fresh {β β' : Nat → Nat × Nat} {σ : St} {d : Nat} {x : Blk} (hβ : ∀ e, e ≠ d → β' e = β e) (hg : x.gen = Nat.succ (σ.B d).gen) : Keep β σ.B β' (fun e => getB e (setB d x σ.b)) := by
  have hB : ∀ e, e ≠ d → getB e (setB d x σ.b) = σ.B e := fun e he => by rw [getB_setB, if_neg he]; rfl
  have hBd : getB d (setB d x σ.b) = x := by rw [getB_setB, if_pos rfl]
  refine ⟨fun e => ?_, fun e g fz fx sz n f hb hgl => ?_, fun e g fz cs hb hgl => ?_⟩
  · by_cases he : e = d
    · subst he; simp only [hBd, hg]; exact Nat.le_succ _
    · simp only [hB e he]; exact Nat.le_refl _
  · by_cases he : e = d
    · subst he
      simp only [hBd] at hb
      rw [hb] at hg
      have hg' : g = Nat.succ (σ.B e).gen := hg
      omega
    · simp only [hB e he] at hb
      exact ⟨fz, fx, n, f, hb, Int.le_refl _, fun _ => hβ e he⟩
  · by_cases he : e = d
    · subst he
      simp only [hBd] at hb
      rw [hb] at hg
      have hg' : g = Nat.succ (σ.B e).gen := hg
      omega
    · simp only [hB e he] at hb
      exact ⟨fz, cs, hb, by rw [hβ e he]⟩

/-- A new own block. -/
theorem Rel.alloc {cx : Cx} {β : Nat → Nat × Nat} {σ : St} {a : Act} {w : World} (h : Rel cx β σ a w) {d : Nat} {x : Blk} {dst : Option Nat} {v : AV} {u : Value} {c : Array Value} {t : TypeId} {fr : Nat × Nat} (cap : Nat)
    (hl : isLive x) (hg : x.gen = Nat.succ (σ.B d).gen)
    (hx : ∀ (w' : World) (F' : Nat → Prop) (β' : Nat → Nat × Nat) (B' : Nat → Blk), (∀ {a u}, Rep w (Fr cx w β σ.B) β σ.B a u → Rep w' F' β' B' a u) → (∀ {a u}, RepC w (Fr cx w β σ.B) a u → RepC w' F' a u) →
      w'.heap[w.heap.size]? = some (.cells c t fr) → β' d = (w.heap.size, cap) → B' d = x → BlkOK w' F' β' B' d)
    (hv : ∀ (w' : World) (F' : Nat → Prop) (β' : Nat → Nat × Nat) (B' : Nat → Blk), β' d = (w.heap.size, cap) → B' d = x → Rep w' F' β' B' v u) :
    ∃ β', Rel cx β' ((σ.put dst v).upd [(d, x)]) (a.put dst u) (w.alloc (.cells c t fr)) := by
  have hBd : getB d (setB d x σ.b) = x := by rw [getB_setB, if_pos rfl]
  let β' : Nat → Nat × Nat := fun e => if e = d then (w.heap.size, cap) else β e
  have hβ : ∀ e, e ≠ d → β' e = β e := fun e he => if_neg he
  have hβd : β' d = (w.heap.size, cap) := if_pos rfl
  have hk : Keep β σ.B β' (fun e => getB e (setB d x σ.b)) := Keep.fresh hβ hg
  refine ⟨β', h.one (d := d) (x := x) hβ hl (fun k hk _ => heap_alloc_old w _ k hk) (.inl (by rw [hβd]; exact Nat.le_refl _)) hk (fun hF hw => ?_) (fun hF hw => ?_) rfl rfl rfl (by simp)⟩
  · exact hx _ _ _ _ (fun hr => hr.mono hF hw hk) (fun hr => hr.mono hF hw) (heap_alloc_new w _) hβd hBd
  · exact hv _ _ _ _ hβd hBd

theorem box_ok {w w' : World} {F F' : Nat → Prop} {β β' : Nat → Nat × Nat} {B B' : Nat → Blk} {d g blk cap : Nat} {fz : Bool} {cs : List AV} {c : Array Value} {t : TypeId} {fr : Nat × Nat}
    (hr : ∀ {a u}, Rep w F β B a u → Rep w' F' β' B' a u) (hh : w'.heap[blk]? = some (.cells c t fr)) (hβ : β' d = (blk, cap)) (hB : B' d = .box fz g cs)
    (hl : c.size = cs.length) (hfr : ∀ j, j < c.size → ¬ (fr.1 ≤ j ∧ j < fr.2)) (hc : ∀ (j : Nat) (a : AV), cs[j]? = some a → ∃ u : Value, c[j]? = some u ∧ Rep w F β B a u) : BlkOK w' F' β' B' d := by
  unfold BlkOK
  rw [hB, hβ]
  exact ⟨c, t, fr, hh, hl, hfr, fun j a ha => let ⟨u, h1, h2⟩ := hc j a ha; ⟨u, h1, hr h2⟩⟩

theorem arr_ok {w w' : World} {F F' : Nat → Prop} {β' : Nat → Nat × Nat} {B' : Nat → Blk} {d g blk cap sz len : Nat} {fz fx : Bool} {n : Int} {f : Int → List AV} {c : Array Value} {t : TypeId} {fr : Nat × Nat}
    (hr : ∀ {a u}, RepC w F a u → RepC w' F' a u) (hh : w'.heap[blk]? = some (.cells c t fr)) (hβ : β' d = (blk, cap)) (hB : B' d = .arr fz fx g sz n f) (hn : n = (len : Int))
    (hl : c.size = cap * sz) (hcap : len ≤ cap) (hmax : cap ≤ maxLen) (hfr : ∀ j, j < c.size → ¬ (fr.1 ≤ j ∧ j < fr.2)) (hfx : fx = false → fr = (0, 0))
    (hc : ∀ i : Nat, i < len → (f i).length = sz ∧ ∀ (j : Nat) (a : AV), (f i)[j]? = some a → ∃ u : Value, c[i * sz + j]? = some u ∧ u.oneCell' = true ∧ RepC w F a u) : BlkOK w' F' β' B' d := by
  unfold BlkOK
  rw [hB, hβ]
  exact ⟨c, t, fr, len, hn, hh, hl, hcap, hmax, hfr, hfx, fun i hi => ⟨(hc i hi).1, fun j a ha => let ⟨u, h1, h2, h3⟩ := (hc i hi).2 j a ha; ⟨u, h1, h2, hr h3⟩⟩⟩

/-- one cell's closed value -/
theorem Rep.closed {w : World} {F : Nat → Prop} {β : Nat → Nat × Nat} {B : Nat → Blk} {a : AV} {u : Value} (h : Rep w F β B a u) (hc : a.clC = true) : RepC w F a u := by
  cases h with
  | cl h => exact h
  | _ => simp [AV.clC] at hc

end AB
end
