/- Part 10 of the proof: an abstract machine over the translated code, the functions' contracts, and the plain law. -/
import Derived.Laws.BitsLemmas
import Derived.Test.YtpodjaolnceggaaDoorM9
set_option linter.unusedSimpArgs false
set_option linter.unusedVariables false
set_option linter.unusedSectionVars false
section
namespace AB
open Go

theorem con_by {P : Program} {G : GI} {T : Nat → Option TI} (hT : TOK P T) (hm : P.follows .mixedOrders = true) {f : Nat} {fn : Func} {c : Code} (hf : P.funcs[f]? = some fn) (hb : fn.body = some c)
    (hname : (fn.name == "runtime.NumGoroutine") = false) {io : Option Inb} {as : List AV} {r : AV} {io' : Option Inb} (hnt : ∀ rs, r = .tup rs → rs.length ≠ 1) (hsame : ∀ x y, io = some x → io' = some y → sameIO x y)
    (h : ∀ p : Par, p = real P G → awp p T c (retQ p.L T fn.results.toList r io') (entry fn.ntmps io as)) : Con P G f io as r io' :=
  con_of_awp hT hm hf hb hname hnt hsame (h _ rfl)

/-- the variables' meaning -/
structure Is (P : Program) (G : GI) (L : Leaf) (C : Nat → List AV → (AV → Prop) → Prop) (D : Nat → Inb → List AV → (AV → Inb → Prop) → Prop) (W : ((Exit → St → Prop) → St → Prop) → (Exit → St → Prop) → St → Prop) (S : ((St → Prop) → St → Prop) → (St → Prop) → St → Prop) (N : (Unit → Prop) → Prop) : Prop where
  L : L = std
  N : ∀ {f : Unit → Prop}, f () → N f
  C : ∀ {g as} {k : AV → Prop}, ∀ r, Con P G g none as r none → k r → C g as k
  D : ∀ {g io as} {k : AV → Inb → Prop}, ∀ r io', Con P G g (some io) as r (some io') → sameIO io io' → k r io' → D g io as k
  W1 : ∀ {b Q σ}, ∀ (X : Type) (inv : X → Nat → Prop) (fr : X → St → St), b (thenQ (fun σ1 => ∃ x n, inv x n ∧ ∃ l, WkR l σ1 (fr x (regS σ))) Q) σ → (∀ x m, inv x m → b (thenQ (fun σ'' => ∃ y k, (k < m ∧ inv y k) ∧ ∃ l, WkR l σ'' (fr y (regS σ))) Q) (fr x (regS σ))) → W b Q σ
  W : ∀ {b Q σ}, ∀ (X : Type) (inv : X → Nat → Prop) (fr : X → St → St), (∃ x n, inv x n ∧ ∃ l, WkR l σ (fr x (regS σ))) → (∀ x m, inv x m → b (thenQ (fun σ'' => ∃ y k, (k < m ∧ inv y k) ∧ ∃ l, WkR l σ'' (fr y (regS σ))) Q) (fr x (regS σ))) → W b Q σ
  S0 : ∀ {A K σ}, A K σ → S A K σ
  S : ∀ {A K σ}, ∀ (X : Type) (P : X → Prop) (fr : X → St → St), A (fun σ' => ∃ x, P x ∧ ∃ l, WkR l σ' (fr x (regS σ))) σ → (∀ x, P x → K (fr x (regS σ))) → S A K σ
theorem thenQ_mono {K K' : St → Prop} {Q : Exit → St → Prop} (h : ∀ σ, K σ → K' σ) : ∀ e σ, thenQ K Q e σ → thenQ K' Q e σ := by
  intro e σ hq
  cases e <;> first | exact h _ hq | exact hq

def getA (d : Nat) : List (Nat × AV) → Option AV
  | [] => none
  | (e, x) :: r => match eqN e d with
    | true => some x
    | false => getA d r
/-- the slots given (in order), the others below 'n' as they are, those from 'n' on forgotten -/
def frS : List (Nat × AV) → Nat → Nat → List AV → List AV
  | _, _, _, [] => []
  | [], n, i, a :: r => (match leN n i with
    | true => .any
    | false => a) :: frS [] n (Nat.succ i) r
  | (e, v) :: o, n, i, a :: r => match eqN e i with
    | true => v :: frS o n (Nat.succ i) r
    | false => (match leN n i with
      | true => .any
      | false => a) :: frS ((e, v) :: o) n (Nat.succ i) r

theorem isReal {P : Program} {G : GI} {L : Leaf} {C : Nat → List AV → (AV → Prop) → Prop} {D : Nat → Inb → List AV → (AV → Inb → Prop) → Prop} {W : ((Exit → St → Prop) → St → Prop) → (Exit → St → Prop) → St → Prop} {S : ((St → Prop) → St → Prop) → (St → Prop) → St → Prop} {N : (Unit → Prop) → Prop} (h : Par.mk L C D W S N = real P G) : Is P G L C D W S N := by
  simp only [real, Par.mk.injEq] at h
  obtain ⟨rfl, rfl, rfl, rfl, rfl, rfl⟩ := h
  have key : ∀ {b : (Exit → St → Prop) → St → Prop} {Q : Exit → St → Prop} {σ : St} (X : Type) (inv : X → Nat → Prop) (fr : X → St → St), (∀ x m, inv x m → b (thenQ (fun σ'' => ∃ y k, (k < m ∧ inv y k) ∧ ∃ l, WkR l σ'' (fr y (regS σ))) Q) (fr x (regS σ))) →
      ∀ m σ', (∃ x, inv x m ∧ σ' = fr x (regS σ)) → b (thenQ (fun σ'' => ∃ k σ3 l, k < m ∧ (∃ x, inv x k ∧ σ3 = fr x (regS σ)) ∧ WkR l σ'' σ3) Q) σ' := by
    rintro b Q σ X inv fr h1 m σ' ⟨x, hi, rfl⟩
    have := h1 x m hi
    have e : (fun σ'' => ∃ y k, (k < m ∧ inv y k) ∧ ∃ l, WkR l σ'' (fr y (regS σ))) = (fun σ'' => ∃ k σ3 l, k < m ∧ (∃ x, inv x k ∧ σ3 = fr x (regS σ)) ∧ WkR l σ'' σ3) := by
      funext σ''
      refine propext ⟨?_, ?_⟩
      · rintro ⟨y, k, ⟨h1, h2⟩, l, h3⟩; exact ⟨k, _, l, h1, ⟨y, h2, rfl⟩, h3⟩
      · rintro ⟨k, σ3, l, h1, ⟨y, h2, rfl⟩, h3⟩; exact ⟨y, k, ⟨h1, h2⟩, l, h3⟩
    rw [← e]; exact this
  refine ⟨rfl, fun h => h, fun r h1 h2 => ⟨r, h1, h2⟩, fun r io' h1 h2 h3 => ⟨r, io', h2, h1, h3⟩, fun {b Q σ} X inv fr h0 h1 => .inr ?_, fun {b Q σ} X inv fr h0 h1 => .inl ?_, fun {A K σ} h => ⟨K, h, fun σ' hk => .inl hk⟩, fun {A K σ} X P fr h0 h1 => ⟨_, h0, fun σ' ⟨x, hx, l, hw⟩ => .inr ⟨_, l, hw, h1 x hx⟩⟩⟩
  · refine ⟨_, ?_, h0⟩
    rintro σ1 ⟨x, n, hi, l, hw⟩
    exact ⟨fun m σ' => ∃ x, inv x m ∧ σ' = fr x (regS σ), ⟨n, _, l, ⟨x, hi, rfl⟩, hw⟩, key X inv fr h1⟩
  · obtain ⟨x, n, hi, l, hw⟩ := h0
    exact ⟨fun m σ' => ∃ x, inv x m ∧ σ' = fr x (regS σ), ⟨n, _, l, ⟨x, hi, rfl⟩, hw⟩, key X inv fr h1⟩

theorem leaf_eqs {L : Leaf} (h : L = std) : L.add = std.add ∧ L.sub = std.sub ∧ L.mul = std.mul ∧ L.quo = std.quo ∧ L.rem = std.rem ∧ L.neg = std.neg ∧ L.bits = std.bits ∧ L.shl = std.shl ∧ L.shr = std.shr ∧ L.lt = std.lt ∧ L.le = std.le ∧ L.eq = std.eq ∧ L.beq = std.beq ∧ L.bnot = std.bnot ∧ L.band = std.band ∧ L.conv = std.conv ∧ L.imin = std.imin ∧ L.imax = std.imax ∧ L.slen = std.slen ∧ L.sat = std.sat ∧ L.ssub = std.ssub ∧ L.scat = std.scat ∧ L.seq = std.seq ∧ L.slt = std.slt ∧ L.ofB = std.ofB ∧ L.nadd = std.nadd ∧ L.nsub = std.nsub ∧ L.selI = std.selI ∧ L.selS = std.selS ∧ L.selB = std.selB ∧ L.selF = std.selF ∧ L.isin = std.isin ∧ L.cut = std.cut ∧ L.fits = std.fits ∧ L.nz = std.nz ∧ L.makes = std.makes ∧ L.cats = std.cats ∧ L.shok = std.shok := by
  subst h
  exact ⟨rfl, rfl, rfl, rfl, rfl, rfl, rfl, rfl, rfl, rfl, rfl, rfl, rfl, rfl, rfl, rfl, rfl, rfl, rfl, rfl, rfl, rfl, rfl, rfl, rfl, rfl, rfl, rfl, rfl, rfl, rfl, rfl, rfl, rfl, rfl, rfl, rfl, rfl⟩

/-! ### What the leaves are -/
section
variable (k : IntKind) (a b n m : Int) (s t : ByteArray) (f g : Int → List AV)
theorem std_add : std.add k a b = k.wrap (a + b) := rfl
theorem std_sub : std.sub k a b = k.wrap (a - b) := rfl
theorem std_mul : std.mul k a b = k.wrap (a * b) := rfl
theorem std_quo : std.quo k a b = k.wrap (a.tdiv b) := rfl
theorem std_rem : std.rem k a b = a.tmod b := rfl
theorem std_lt : std.lt a b = decide (a < b) := rfl
theorem std_le : std.le a b = decide (a ≤ b) := rfl
theorem std_eq : std.eq a b = (a == b) := rfl
theorem std_conv : std.conv k a = k.wrap a := rfl
theorem std_nadd : std.nadd a b = a + b := rfl
theorem std_nsub : std.nsub a b = a - b := rfl
theorem std_isin : std.isin a n = (0 ≤ a ∧ a < n) := rfl
theorem std_cut : std.cut a b n = (0 ≤ a ∧ a ≤ b ∧ b ≤ n) := rfl
theorem std_slen : std.slen s = (s.size : Int) := rfl
theorem std_nz : std.nz b = (b ≠ 0) := rfl
theorem std_selI (b : Bool) (x y : Int) : std.selI b x y = if b = true then x else y := rfl
theorem std_selS (b : Bool) (x y : ByteArray) : std.selS b x y = if b = true then x else y := rfl
theorem std_selB (b x y : Bool) : std.selB b x y = if b = true then x else y := rfl
theorem std_selF (b : Bool) (f g : Int → List AV) : std.selF b f g = if b = true then f else g := rfl
theorem std_makes (c : Nat) : std.makes n c = (0 ≤ n ∧ n * (c : Int) ≤ 281474976710656 ∧ n ≤ 4611686018427387904) := rfl
theorem std_fits (c : Nat) : std.fits n m c = ((n + m) * (c : Int) ≤ 140737488355328 ∧ n + m ≤ 4611686018427387904) := rfl
end

theorem not_match (b : Bool) : (cond.match_1 (fun _ => Bool) b (fun _ => false) (fun _ => true)) = !b := by cases b <;> rfl
theorem wrap64 {x : Int} (h1 : -9223372036854775808 ≤ x) (h2 : x < 9223372036854775808) : IntKind.wrap .i64 x = x := by
  rw [IntKind.wrap_i64]
  omega

theorem sub_refl (a : AV) : Sub a a := .refl a
theorem sub_any (a : AV) : Sub a .any := .any a
theorem subs : (∀ a, Sub a a = True) ∧ (∀ a, Sub a .any = True) := ⟨fun a => (by simp [sub_refl]), fun a => (by simp [sub_any])⟩
theorem stds : (∀ k a b, std.add k a b = k.wrap (a + b)) ∧ (∀ k a b, std.sub k a b = k.wrap (a - b)) ∧ (∀ k a b, std.mul k a b = k.wrap (a * b)) ∧ (∀ k a b, std.quo k a b = k.wrap (a.tdiv b)) ∧ (∀ k a b, std.rem k a b = a.tmod b) ∧ (∀ k a, std.neg k a = k.wrap (0 - a)) ∧
    (∀ a b, std.lt a b = decide (a < b)) ∧ (∀ a b, std.le a b = decide (a ≤ b)) ∧ (∀ a b, std.eq a b = (a == b)) ∧ (∀ a b, std.beq a b = (a == b)) ∧ (∀ b, std.bnot b = !b) ∧ (∀ k a, std.conv k a = k.wrap a) ∧ (∀ a b, std.nadd a b = a + b) ∧ (∀ a b, std.nsub a b = a - b) ∧ (∀ a n, std.isin a n = (0 ≤ a ∧ a < n)) ∧
    (∀ a b n, std.cut a b n = (0 ≤ a ∧ a ≤ b ∧ b ≤ n)) ∧ (∀ s, std.slen s = (s.size : Int)) ∧ (∀ b, std.nz b = (b ≠ 0)) ∧ (∀ b, std.shok b = (0 ≤ b)) ∧ (∀ b x y, std.selI b x y = if b = true then x else y) ∧ (∀ b x y, std.selS b x y = if b = true then x else y) ∧ (∀ b x y, std.selB b x y = if b = true then x else y) ∧ (∀ b x y, std.selF b x y = if b = true then x else y) ∧
    (∀ n c, std.makes n c = (0 ≤ n ∧ n * (c : Int) ≤ 281474976710656 ∧ n ≤ 4611686018427387904)) ∧ (∀ n m c, std.fits n m c = ((n + m) * (c : Int) ≤ 140737488355328 ∧ n + m ≤ 4611686018427387904)) ∧ (∀ a b, std.cats a b = ((a.size : Int) + b.size ≤ 9223372036854775807)) ∧
    (∀ n, IntKind.wrap .i64 n = (n + 9223372036854775808) % 18446744073709551616 - 9223372036854775808) ∧ (∀ b, (cond.match_1 (fun _ => Bool) b (fun _ => false) (fun _ => true)) = !b) ∧
    (∀ (p : Prop) [Decidable p], (decide p = true) = p) ∧ (∀ (p : Prop) [Decidable p], (decide p = false) = ¬ p) ∧ (∀ a b : Int, ((a == b) = true) = (a = b)) ∧ (∀ a b : Int, ((a == b) = false) = ¬ a = b) ∧ (∀ b, ((!b) = true) = (b = false)) ∧ (∀ b, ((!b) = false) = (b = true)) ∧ (∀ a b : Int, (¬ a < b) = (b ≤ a)) ∧ (∀ a b : Int, (¬ a ≤ b) = (b < a)) ∧
    (∀ a, Sub a a = True) ∧ (∀ a, Sub a .any = True) := by
  refine ⟨fun _ _ _ => rfl, fun _ _ _ => rfl, fun _ _ _ => rfl, fun _ _ _ => rfl, fun _ _ _ => rfl, fun _ _ => rfl, fun _ _ => rfl, fun _ _ => rfl, fun _ _ => rfl, fun _ _ => rfl, fun _ => rfl, fun _ _ => rfl, fun _ _ => rfl, fun _ _ => rfl, fun _ _ => rfl, fun _ _ _ => rfl, fun _ => rfl, fun _ => rfl, fun _ => rfl, fun _ _ _ => rfl, fun _ _ _ => rfl, fun _ _ _ => rfl, fun _ _ _ => rfl,
    fun _ _ => rfl, fun _ _ _ => rfl, fun _ _ => rfl, IntKind.wrap_i64, fun b => (by cases b <;> rfl), fun _ _ => (by simp), fun _ _ => (by simp), fun _ _ => (by simp), fun _ _ => (by simp), fun _ => (by simp), fun _ => (by simp), fun _ _ => (by simp), fun _ _ => (by simp), fun a => (by simp [sub_refl]), fun a => (by simp [sub_any])⟩
theorem sub_val {u v : Value} (h : u = v) : Sub (.val u) (.val v) := h ▸ .refl _
theorem sub_int {k : IntKind} {a b : Int} (h : a = b) : Sub (.val (.int k a)) (.val (.int k b)) := h ▸ .refl _
theorem sub_bool {a b : Bool} (h : a = b) : Sub (.val (.bool a)) (.val (.bool b)) := h ▸ .refl _
theorem sub_lst {n n' : Int} {f f' : Int → List AV} (hn : n = n') (h : ∀ i : Int, 0 ≤ i → i < n → f i = f' i) : Sub (.lst n f) (.lst n' f') := by
  subst hn
  exact .lst n f f' (fun i h0 h1 => by rw [h i h0 h1]) (fun i h0 h1 j a b ha hb => by rw [h i h0 h1, hb] at ha; cases ha; exact .refl _)
/-- the form in which the elements of own arrays are compared -/
theorem cells_eq {n : Int} {f f' : Int → List AV} (h : ∀ i : Int, 0 ≤ i → i < n → f i = f' i) : ∀ i : Int, 0 ≤ i → i < n → (f i).length = (f' i).length ∧ ∀ (j : Nat) (a b : AV), (f i)[j]? = some a → (f' i)[j]? = some b → Sub a b :=
  fun i h0 h1 => ⟨by rw [h i h0 h1], fun j a b ha hb => by rw [h i h0 h1, hb] at ha; cases ha; exact .refl _⟩

end AB
end
section
namespace AB
open Go

theorem RepL.sub {w : World} {F : Nat → Prop} {as as' : List AV} {vs : List Value} (h : RepL w F as' vs) (hs : subL as' as) : RepL w F as vs := by
  obtain ⟨h1, h2⟩ := subL_get hs
  refine ⟨by rw [h.1, h1], fun j a ha => ?_⟩
  obtain ⟨x, hx⟩ := sub_get h1 ha
  obtain ⟨v, hv, hr⟩ := h.2 j x hx
  exact ⟨v, hv, hr.sub (h2 j x a hx ha)⟩
theorem Con.weak {P : Program} {G : GI} {f : Nat} {io : Option Inb} {as as' : List AV} {r : AV} {io' : Option Inb} (h : Con P G f io as r io') (hs : subL as' as) : Con P G f io as' r io' :=
  ⟨h.1, fun w F loc vs h1 h2 h3 => h.2 w F loc vs h1 h2 (h3.sub hs)⟩

/-- A library's contract: what it returns has no memory behind it. -/
theorem con_plain {P : Program} {G : GI} {f : Nat} {as : List Value} {v : Value} (hc : Callable P f)
    (h : ∀ w, G.ok w → Calls P f as.toArray w fun e w' => e = .returned v ∧ BelowX w.heap.size (fun _ => False) w w') : Con P G f none (as.map AV.val) (.val v) none := by
  refine ⟨hc, fun w F loc vs hG hF hr => ?_⟩
  have : vs = as := by
    refine List.ext_getElem? fun j => ?_
    by_cases hj : j < as.length
    · obtain ⟨u, hu, hr⟩ := hr.2 j (.val as[j]) (by simp [hj])
      cases hr
      rw [hu]; simp [hj]
    · rw [List.getElem?_eq_none (by rw [hr.1]; simp; omega), List.getElem?_eq_none (by omega)]
  subst this
  simp only
  refine (h w hG).mono ?_
  rintro e w' ⟨rfl, hb⟩
  refine ⟨v, [v], fun _ => (0, 0), rfl, rfl, hb, ⟨rfl, fun j cl sz n f hj => ?_, fun j j' ⟨_, _, _, _, hj⟩ => ?_, fun j a hj _ => ?_⟩, trivial⟩
  · cases j <;> simp [comps] at hj
  · cases j <;> simp [comps] at hj
  · cases j with
    | zero => simp only [comps, List.getElem?_cons_zero, Option.some.injEq] at hj; subst hj; exact ⟨v, rfl, .val v⟩
    | succ j => simp [comps] at hj
/-- .. a tuple of such -/
theorem con_plainT {P : Program} {G : GI} {f : Nat} {as vs : List Value} (hc : Callable P f)
    (h : ∀ w, G.ok w → Calls P f as.toArray w fun e w' => e = .returned (.tuple vs.toArray) ∧ BelowX w.heap.size (fun _ => False) w w') : Con P G f none (as.map AV.val) (.tup (vs.map AV.val)) none := by
  refine ⟨hc, fun w F loc ws hG hF hr => ?_⟩
  have : ws = as := by
    refine List.ext_getElem? fun j => ?_
    by_cases hj : j < as.length
    · obtain ⟨u, hu, hr⟩ := hr.2 j (.val as[j]) (by simp [hj])
      cases hr
      rw [hu]; simp [hj]
    · rw [List.getElem?_eq_none (by rw [hr.1]; simp; omega), List.getElem?_eq_none (by omega)]
  subst this
  simp only
  refine (h w hG).mono ?_
  rintro e w' ⟨rfl, hb⟩
  have hno : ∀ (j : Nat) cl sz n f, (comps (.tup (vs.map AV.val)))[j]? ≠ some (AV.own cl sz n f) := by
    intro j cl sz n f hj
    simp only [comps, List.getElem?_map, Option.map_eq_some_iff] at hj
    obtain ⟨_, _, hj⟩ := hj
    cases hj
  refine ⟨_, vs, fun _ => (0, 0), rfl, rfl, hb, ⟨by simp [comps], fun j cl sz n f hj => absurd hj (hno _ _ _ _ _), fun j j' ⟨_, _, _, _, hj⟩ => absurd hj (hno _ _ _ _ _), fun j a hj _ => ?_⟩, trivial⟩
  simp only [comps, List.getElem?_map, Option.map_eq_some_iff] at hj
  obtain ⟨u, hu, rfl⟩ := hj
  exact ⟨u, hu, .val u⟩
theorem below_drew {w : World} (n : Nat) : BelowX w.heap.size (fun _ => False) w { w with drawn := w.drawn + n } := ⟨rfl, rfl, rfl, Nat.le_refl _, fun _ _ _ => rfl⟩
end AB
end
section
namespace AB
open Go

open Classical in
/-- go on if a condition holds -/
noncomputable def grd {α : Type} (P : Prop) (k : Option α) : Option α := if P then k else none
theorem grd_inv {α : Type} {P : Prop} {k : Option α} {r : α} (h : grd P k = some r) : P ∧ k = some r := by
  unfold grd at h
  split at h
  · rename_i hp; exact ⟨hp, h⟩
  · cases h
theorem grd_t {α : Type} {P : Prop} {k : Option α} (h : P) : grd P k = k := if_pos h
/-- .. with what another function returns -/
def bnd {α β : Type} (a : Option α) (k : α → Option β) : Option β :=
  match a with
  | some x => k x
  | none => none
theorem bnd_inv {α β : Type} {a : Option α} {k : α → Option β} {r : β} (h : bnd a k = some r) : ∃ x, a = some x ∧ k x = some r := by
  cases a with
  | none => cases h
  | some x => exact ⟨x, rfl, h⟩
theorem bnd_t {α β : Type} {a : Option α} {k : α → Option β} {x : α} (h : a = some x) : bnd a k = k x := by subst h; rfl
/-- a branch -/
def cnd {α : Type} (c : Bool) (a b : α) : α :=
  match c with
  | true => a
  | false => b
theorem cnd_inv {α : Type} {c : Bool} {a b r : α} (h : cnd c a b = r) : (c = true ∧ a = r) ∨ (c = false ∧ b = r) := by
  cases c with
  | true => exact .inl ⟨rfl, h⟩
  | false => exact .inr ⟨rfl, h⟩
theorem cnd_if {α : Type} {c : Bool} {a b : α} : cnd c a b = if c = true then a else b := by cases c <;> rfl
/-- a part that ends in one of two ways: to go on from, or to be done with -/
def cut {α β : Type} (a : Option (α ⊕ β)) (k : α → Option β) : Option β :=
  match a with
  | some (.inl x) => k x
  | some (.inr z) => some z
  | none => none
def cutO {α β : Type} (o : α ⊕ β) (k : α → Option β) : Option β :=
  match o with
  | .inl x => k x
  | .inr z => some z
theorem cut_inv {α β : Type} {a : Option (α ⊕ β)} {k : α → Option β} {r : β} (h : cut a k = some r) : ∃ o, a = some o ∧ cutO o k = some r := by
  cases a with
  | none => cases h
  | some o => exact ⟨o, rfl, by cases o <;> exact h⟩
theorem cut_l {α β : Type} {a : Option (α ⊕ β)} {k : α → Option β} {x : α} (h : a = some (.inl x)) : cut a k = k x := by subst h; rfl
theorem cut_r {α β : Type} {a : Option (α ⊕ β)} {k : α → Option β} {z : β} (h : a = some (.inr z)) : cut a k = some z := by subst h; rfl
/-- done with, from within a part -/
def out {α β : Type} (a : Option β) : Option (α ⊕ β) :=
  match a with
  | some z => some (.inr z)
  | none => none
theorem out_inv {α β : Type} {a : Option β} {o : α ⊕ β} (h : out a = some o) : ∃ z, a = some z ∧ o = .inr z := by
  cases a with
  | none => cases h
  | some z => simp only [out, Option.some.injEq] at h; exact ⟨z, rfl, h.symm⟩
/-- a loop -/
def loopF {α β : Type} (step : α → Option (α ⊕ β)) : Nat → α → Option β
  | 0, _ => none
  | n + 1, x => match step x with
    | some (.inl y) => loopF step n y
    | some (.inr z) => some z
    | none => none
theorem loopF_inv {α β : Type} {step : α → Option (α ⊕ β)} {n : Nat} {x : α} {r : β} (h : loopF step n x = some r) :
    ∃ m o, m < n ∧ step x = some o ∧ ((∃ y, o = .inl y ∧ loopF step m y = some r) ∨ o = .inr r) := by
  cases n with
  | zero => cases h
  | succ n =>
    simp only [loopF] at h
    cases hs : step x with
    | none => rw [hs] at h; cases h
    | some o =>
      rw [hs] at h
      cases o with
      | inl y => exact ⟨n, _, Nat.lt_succ_self _, rfl, .inl ⟨y, rfl, h⟩⟩
      | inr z => simp only [Option.some.injEq] at h; subst h; exact ⟨n, _, Nat.lt_succ_self _, rfl, .inr rfl⟩
/-- a loop that keeps to an invariant and comes nearer to its end returns -/
theorem loopF_some {α β : Type} {step : α → Option (α ⊕ β)} (I : α → Prop) (m : α → Nat) (Q : β → Prop)
    (h : ∀ x, I x → (∃ y, step x = some (.inl y) ∧ I y ∧ m y < m x) ∨ ∃ z, step x = some (.inr z) ∧ Q z) :
    ∀ (n : Nat) (x : α), I x → m x < n → ∃ z, loopF step n x = some z ∧ Q z
  | 0, x, _, hn => absurd hn (Nat.not_lt_zero _)
  | n + 1, x, hi, hn => by
    rcases h x hi with ⟨y, hs, hy, hm⟩ | ⟨z, hs, hz⟩
    · obtain ⟨z, h1, h2⟩ := loopF_some I m Q h n y hy (by omega)
      exact ⟨z, by simp only [loopF, hs]; exact h1, h2⟩
    · exact ⟨z, by simp only [loopF, hs], hz⟩
theorem loopF_step {α β : Type} {step : α → Option (α ⊕ β)} {n : Nat} {x y : α} (h : step x = some (.inl y)) : loopF step (n + 1) x = loopF step n y := by simp only [loopF, h]
theorem loopF_done {α β : Type} {step : α → Option (α ⊕ β)} {n : Nat} {x : α} {z : β} (h : step x = some (.inr z)) : loopF step (n + 1) x = some z := by simp only [loopF, h]

theorem cut_out {α β : Type} {t : Option β} {o : α ⊕ β} {k : α → Option β} {r : β} (h : out t = some o) (g : cutO o k = some r) : t = some r := by
  obtain ⟨z, h1, rfl⟩ := out_inv h
  rw [h1]; exact g
theorem loop_out {α β : Type} {step : α → Option (α ⊕ β)} {m : Nat} {t : Option β} {o : α ⊕ β} {r : β} (h : out t = some o) (g : (∃ y, o = .inl y ∧ loopF step m y = some r) ∨ o = .inr r) : t = some r := by
  obtain ⟨z, h1, rfl⟩ := out_inv h
  rcases g with ⟨y, h2, _⟩ | h2
  · cases h2
  · simp only [Sum.inr.injEq] at h2; rw [h1, h2]
theorem loop_next {α β : Type} {step : α → Option (α ⊕ β)} {m : Nat} {x : α} {o : α ⊕ β} {r : β} (h : some (.inl x) = some o) (g : (∃ y, o = .inl y ∧ loopF step m y = some r) ∨ o = .inr r) : loopF step m x = some r := by
  simp only [Option.some.injEq] at h
  subst h
  rcases g with ⟨y, h2, h3⟩ | h2
  · simp only [Sum.inl.injEq] at h2; subst h2; exact h3
  · cases h2
theorem peel_next {α β : Type} {x : α} {o : α ⊕ β} {k : α → Option β} {r : β} (h : some (.inl x) = some o) (g : cutO o k = some r) : k x = some r := by
  simp only [Option.some.injEq] at h
  subst h
  exact g
theorem end_eq {α β : Type} {x : α} {o : α ⊕ β} (h : some (.inl x) = some o) : o = .inl x := (Option.some.inj h).symm
theorem sub_nil (f : Int → List AV) : Sub (.val (.slice none 0 0)) (.lst 0 f) := .nil f
theorem subLn : subL [] [] := trivial
theorem subLc {a b : AV} {r s : List AV} (h : Sub a b) (k : subL r s) : subL (a :: r) (b :: s) := ⟨h, k⟩
theorem sub_agg {cs cs' : List AV} (h : subL cs cs') : Sub (.agg cs) (.agg cs') := by
  obtain ⟨h1, h2⟩ := subL_get h
  exact .agg cs cs' h1 h2
theorem sub_tup {cs cs' : List AV} (h : subL cs cs') : Sub (.tup cs) (.tup cs') := by
  obtain ⟨h1, h2⟩ := subL_get h
  exact .tup cs cs' h1 h2
theorem sub_lst' {n : Int} {f f' : Int → List AV} (h : ∀ i : Int, 0 ≤ i → i < n → subL (f i) (f' i)) : Sub (.lst n f) (.lst n f') :=
  .lst n f f' (fun i h0 h1 => (subL_get (h i h0 h1)).1) (fun i h0 h1 => (subL_get (h i h0 h1)).2)
/-- elements without memory behind them -/
theorem own_val (f : Int → List AV) (n : Int) (h : ∀ i, allB (fun a => match a with | .val _ => true | _ => false) (f i) = true) : ∀ i : Int, 0 ≤ i → i < n → ∀ a, a ∈ f i → ∃ c, a = .val c := by
  intro i _ _ a ha
  have := h i
  rw [allB_eq, List.all_eq_true] at this
  have := this a ha
  cases a <;> first | exact ⟨_, rfl⟩ | cases this
/-! ### Functions of a place -/
def updG {α : Type} (sel : Bool → α → α → α) (g : Int → α) (i : Int) (v : α) : Int → α := fun k => sel (std.eq k i) v (g k)
def appG {α : Type} (sel : Bool → α → α → α) (g : Int → α) (n : Int) (h : Int → α) : Int → α := fun k => sel (std.lt k n) (g k) (h (std.nsub k n))
def selT {α : Type} (b : Bool) (x y : α) : α := if b = true then x else y
end AB
end
