/- Part 9 of the proof: an abstract machine over the translated code, the functions' contracts, and the plain law. -/
import Derived.Orders
import Derived.Test.YtpodjaolnceggaaDoorM8
set_option linter.unusedSimpArgs false
set_option linter.unusedVariables false
set_option linter.unusedSectionVars false
section
namespace AB
open Go

/-- a loop, by an invariant -/
def WL (body : (Exit → St → Prop) → St → Prop) (Q : Exit → St → Prop) (σ : St) : Prop :=
  ∃ (I : Nat → St → Prop), (∃ n σ' l, I n σ' ∧ WkR l σ σ') ∧ ∀ m σ', I m σ' → body (thenQ (fun σ'' => ∃ k σ3 l, k < m ∧ I k σ3 ∧ WkR l σ'' σ3) Q) σ'
def real (P : Program) (G : GI) : Par where
  L := std
  C := fun g as k => ∃ r, Con P G g none as r none ∧ k r
  D := fun g io as k => ∃ r io', sameIO io io' ∧ Con P G g (some io) as r (some io') ∧ k r io'
  W := fun body Q σ => WL body Q σ ∨ ∃ (K : St → Prop), (∀ σ1, K σ1 → WL body Q σ1) ∧ body (thenQ K Q) σ
  S := fun A K σ => ∃ (I : St → Prop), A I σ ∧ ∀ σ', I σ' → (K σ' ∨ ∃ σ'' l, WkR l σ' σ'' ∧ K σ'')
  N := fun f => f ()

/-- an operation of a region: what it looked at and wrote, its value, the own blocks that turned -/
structure Stp where
  t : Tr
  v : AV
  u : List (Nat × Blk)
def Stp.next (x : Stp) (σ : St) : St := (σ.put x.t.o.dst x.v).upd x.u

inductive AStep (P : Program) (G : GI) (T : Nat → Option TI) (ops : List Oper) (σ : St) (i : Nat) (o : Oper) : Stp → Prop
  | skip (hg : guardF ops σ o = .yes false) : AStep P G T ops σ i o ⟨⟨i, o, [], []⟩, .val (.tuple #[]), []⟩
  | leaf {pre : Prop} {v : AV} {u : List (Nat × Blk)} {rd : List Nat} (hg : guardF ops σ o = .yes true) (hc : isCall o.op = none) (hs : stepF std T σ.ev σ.B (dstN o) o.op = .ok pre v u rd) (hp : pre) :
      AStep P G T ops σ i o ⟨⟨i, o, ids u, rd⟩, v, u⟩
  | call {c : Call} {g : Nat} {caps : List AV} {pre : Prop} {as : List AV} {l : List Nat} {r : AV} (hg : guardF ops σ o = .yes true) (hc : isCall o.op = some c) (hcal : calleeF σ c.callee = some (g, caps))
      (hv : views (viewA σ.B) (appL (mapL σ.ev c.args.toList) caps) = .ok pre as l) (hp : pre) (hio : noIo l = true) (hC : Con P G g none as r none) :
      AStep P G T ops σ i o ⟨⟨i, o, ids (afterC σ.B (dstN o) l r).2, appL l (ids (afterC σ.B (dstN o) l r).2)⟩, (afterC σ.B (dstN o) l r).1, (afterC σ.B (dstN o) l r).2⟩
  | io {c : Call} {g : Nat} {caps : List AV} {pre1 pre : Prop} {b : Nat} {io io' : Inb} {as : List AV} {l1 l : List Nat} {r : AV} (hg : guardF ops σ o = .yes true) (hc : isCall o.op = some c) (hcal : calleeF σ c.callee = some (g, caps))
      (hf : ioF σ.B (mapL σ.ev c.args.toList) = .ok pre1 b io l1) (hp1 : pre1) (hv : views (viewA σ.B) (appL (tlL (mapL σ.ev c.args.toList)) caps) = .ok pre as l) (hp : pre) (hio : noIo (appL l1 l) = true)
      (hb : memN b (appL l1 l) = false) (hsame : sameIO io io') (hC : Con P G g (some io) as r (some io')) (hbu : memN b (ids (afterD σ.B (dstN o) b (appL l1 l) r).2) = false) :
      AStep P G T ops σ i o ⟨⟨i, o, b :: ids (afterD σ.B (dstN o) b (appL l1 l) r).2, b :: appL (appL l1 l) (ids (afterD σ.B (dstN o) b (appL l1 l) r).2)⟩, (afterD σ.B (dstN o) b (appL l1 l) r).1,
        appL (afterD σ.B (dstN o) b (appL l1 l) r).2 [(b, ioBlk σ.B b io')]⟩

theorem AStep.tr {P : Program} {G : GI} {T : Nat → Option TI} {ops : List Oper} {σ : St} {i : Nat} {o : Oper} {x : Stp} (h : AStep P G T ops σ i o x) : x.t.i = i ∧ x.t.o = o ∧ (∀ e, e ∈ ids x.u → e ∈ x.t.wr) ∧ (∀ e, e ∈ x.t.wr → e ∈ ids x.u) := by
  cases h with
  | skip => exact ⟨rfl, rfl, fun e h => h, fun e h => h⟩
  | leaf => exact ⟨rfl, rfl, fun e h => h, fun e h => h⟩
  | call => exact ⟨rfl, rfl, fun e h => h, fun e h => h⟩
  | io =>
    refine ⟨rfl, rfl, fun e h => ?_, fun e h => ?_⟩
    · simp only [appL_eq, ids_eq, List.map_append, List.map_cons, List.map_nil, List.mem_append, List.mem_singleton] at h
      simp only [ids_eq, appL_eq, List.mem_cons]
      exact h.symm
    · simp only [appL_eq, ids_eq, List.map_append, List.map_cons, List.map_nil, List.mem_append, List.mem_singleton]
      simp only [ids_eq, appL_eq, List.mem_cons] at h
      exact h.symm

theorem St.upd_append (σ : St) (u v : List (Nat × Blk)) : (σ.upd u).upd v = σ.upd (appL u v) := by
  rw [St.upd_eq, St.upd_eq, St.upd_eq, appL_eq, updL_append]

/-! ### What an operation looks at -/

theorem mem_opTmps {t : Nat} : ∀ {l : List Operand}, Operand.tmp t ∈ l → t ∈ opTmps l
  | [], h => by cases h
  | y :: r, h => by
    rcases List.mem_cons.1 h with h | h
    · subst h; simp [opTmps]
    · have := mem_opTmps h
      cases y <;> simp [opTmps, this]

theorem looks_op {ops : List Oper} {o : Oper} {t : Nat} (h : Operand.tmp t ∈ o.op.operands) : t ∈ looks ops o := by
  have := mem_opTmps (show Operand.tmp t ∈ o.op.operands.toList by simpa using h)
  unfold looks
  split
  · split
    · split
      · exact List.mem_cons_of_mem _ this
      · exact this
    · exact this
  · exact this
theorem looks_guard {ops : List Oper} {o : Oper} {j d : Nat} {want : Bool} (hg : o.guard = some (j, want)) (hd : getO ops j = some d) : d ∈ looks ops o := by
  unfold looks
  unfold getO at hd
  simp only [hg]
  split at hd
  · rename_i og hog
    simp only [hog, hd, List.mem_cons, true_or]
  · cases hd

theorem AStep.loc {P : Program} {G : GI} {T : Nat → Option TI} {ops : List Oper} {σ σ' : St} {i : Nat} {o : Oper} {x : Stp} (h : AStep P G T ops σ i o x) (hs : ∀ t, t ∈ looks ops o → getS t σ'.s = getS t σ.s)
    (hB : ∀ e, e ∈ x.t.rd → σ'.B e = σ.B e) : AStep P G T ops σ' i o x := by
  have hgd : guardF ops σ' o = guardF ops σ o := by
    unfold guardF
    split
    · rfl
    · rename_i j want hg
      split
      · rfl
      · rename_i d hd
        rw [hs d (looks_guard hg hd)]
  have hev : ∀ y, y ∈ o.op.operands → σ'.ev y = σ.ev y := fun y hy => by
    cases y with
    | tmp t => exact hs t (looks_op hy)
    | _ => rfl
  have hargs : ∀ c, isCall o.op = some c → mapL σ'.ev c.args.toList = mapL σ.ev c.args.toList ∧ calleeF σ' c.callee = calleeF σ c.callee := fun c hc => by
    have ho := isCall_op hc
    rw [ho] at hev
    refine ⟨mapL_congr _ (fun y hy => hev y (by simp only [Op.operands, Call.operands, Array.mem_append]; right; simpa using hy)), ?_⟩
    unfold calleeF
    split
    · rfl
    · rename_i t hcal
      rw [show getS t σ'.s = getS t σ.s from hev (.tmp t) (by simp [Op.operands, Call.operands, hcal])]
    · rfl
  cases h with
  | skip hg => exact .skip (hgd.trans hg)
  | leaf hg hc hst hp => exact .leaf (hgd.trans hg) hc (by rw [step_ops (ρ' := σ.ev) _ hev]; exact step_blk hst hB) hp
  | @call c g caps pre as l r hg hc hcal hv hp hio hC =>
    obtain ⟨k1, k2⟩ := hargs _ hc
    simp only [appL_eq, List.mem_append] at hB
    have hl : ∀ e, e ∈ l → σ'.B e = σ.B e := fun e he => hB e (.inl he)
    have ha : afterC σ'.B (dstN o) l r = afterC σ.B (dstN o) l r := afterC_blk (fun e he => hB e (.inr he)) hl
    rw [← ha]
    exact .call (hgd.trans hg) hc (k2.trans hcal) (by rw [k1]; exact views_blk (B := σ.B) (B' := σ'.B) _ (fun x pre x' l h1 h2 => viewA_blk h1 h2) hv hl) hp hio hC
  | @io c g caps pre1 pre b io io' as l1 l r hg hc hcal hf hp1 hv hp hio hb hsame hC hbu =>
    obtain ⟨k1, k2⟩ := hargs _ hc
    have hl : ∀ e, e ∈ appL l1 l → σ'.B e = σ.B e := fun e he => hB e (by simp only [List.mem_cons]; right; rw [appL_eq]; exact List.mem_append.2 (.inl he))
    have hb' : σ'.B b = σ.B b := hB b (by simp)
    have ha : afterD σ'.B (dstN o) b (appL l1 l) r = afterD σ.B (dstN o) b (appL l1 l) r := afterD_blk (fun e he => hB e (by simp only [List.mem_cons]; right; rw [appL_eq _ (ids _)]; exact List.mem_append.2 (.inr he))) hl
    rw [appL_eq] at hl
    rw [← ha] at hbu ⊢
    rw [← ioBlk_blk (io := io') hb']
    exact .io (hgd.trans hg) hc (k2.trans hcal) (by rw [k1]; exact ioF_blk hf hb' (fun e he => hl e (List.mem_append.2 (.inl he)))) hp1
      (by rw [k1]; exact views_blk (B := σ.B) (B' := σ'.B) _ (fun x pre x' l h1 h2 => viewA_blk h1 h2) hv (fun e he => hl e (List.mem_append.2 (.inr he)))) hp hio hb hsame hC hbu

/-! ### One operation on the machine -/

section
variable {cx : Cx} {β : Nat → Nat × Nat} {σ : St} {a : Act} {w : World}

theorem guard_ok (h : Rel cx β σ a w) {ops : Array Oper} {o : Oper} {b : Bool} (hg : guardF ops.toList σ o = .yes b) : Region.wanted o (yielded ops a.tmps) = b := by
  unfold guardF at hg
  unfold Region.wanted
  split at hg
  · rename_i hn
    simp only [Gd.yes.injEq] at hg
    simp only [hn]; exact hg
  · rename_i j want hn
    split at hg
    · cases hg
    · rename_i d hd
      simp only [hn]
      split at hg
      · rename_i t ht
        have hy : yielded ops a.tmps j = some t := by
          have hd' : (ops[j]?).bind (·.dst) = some d := by
            unfold getO at hd
            split at hd
            · rename_i og hog
              rw [getL_eq, Array.getElem?_toList] at hog
              rw [hog]; exact hd
            · cases hd
          unfold yielded
          rw [hd']
          have hev := h.ev (.tmp d)
          rw [show σ.ev (.tmp d) = getS d σ.s from rfl, ht] at hev
          have := hev.val_inv
          simp only [Act.eval, Array.getD_eq_getD_getElem?] at this
          simp only [Option.bind_some]
          cases hq : a.tmps[d]? with
          | none => rw [hq] at this; simp [undef] at this
          | some z => rw [hq] at this; simp only [Option.getD_some] at this; subst this; rfl
        rw [hy]
        cases want <;> cases t <;> simp only [Gd.yes.injEq] at hg <;> subst hg <;> rfl
      · rename_i vs ht
        have hy : yielded ops a.tmps j = none := by
          have hd' : (ops[j]?).bind (·.dst) = some d := by
            unfold getO at hd
            split at hd
            · rename_i og hog
              rw [getL_eq, Array.getElem?_toList] at hog
              rw [hog]; exact hd
            · cases hd
          unfold yielded
          rw [hd']
          have hev := h.ev (.tmp d)
          rw [show σ.ev (.tmp d) = getS d σ.s from rfl, ht] at hev
          have := hev.val_inv
          simp only [Act.eval, Array.getD_eq_getD_getElem?] at this
          simp only [Option.bind_some]
          cases hq : a.tmps[d]? with
          | none => rfl
          | some z => rw [hq] at this; simp only [Option.getD_some] at this; subst this; rfl
        rw [hy]
        simp only [Gd.yes.injEq] at hg
        subst hg
        rfl
      · cases hg

theorem AStep.sound {G : GI} (hG : GOK G cx) {T : Nat → Option TI} (hT : TOK cx.P T) (h : Rel cx β σ a w) {ops : Array Oper} {i : Nat} {o : Oper} (hi : ops[i]? = some o) {x : Stp} (hx : AStep cx.P G T ops.toList σ i o x)
    {K : Act → World → Prop} {Q : Exit → Act → World → Prop} (hK : ∀ β' a' w', Rel cx β' (x.next σ) a' w' → K a' w') : wpOp cx.P ops Q i K a w := by
  unfold wpOp
  simp only [hi]
  cases hx with
  | skip hg =>
    rw [guard_ok h hg]
    simp only [Bool.false_eq_true, if_false]
    exact hK β _ _ (h.pure (.cl (.val _)))
  | leaf hg hc hs hp =>
    rw [guard_ok h hg]
    simp only [if_true]
    refine .inl ?_
    obtain ⟨u, w', β', hr, hR⟩ := step_sound hT h _ hs hp
    unfold Oper.wp
    rcases hr with hr | ⟨hr, hu⟩
    · rw [hr]; exact hK β' _ _ hR
    · subst hu; rw [hr]; exact hK β' _ _ hR
  | call hg hc hcal hv hp hio hC =>
    rw [guard_ok h hg]
    simp only [if_true]
    exact .inl (call_pure_wp hG h hc hcal hv hp hio hC (fun w' β' v hR => hK β' _ _ hR))
  | io hg hc hcal hf hp1 hv hp hio hb hsame hC hbu =>
    rw [guard_ok h hg]
    simp only [if_true]
    exact .inl (call_io_wp hG h hc hcal hf hp1 hv hp hio hb hsame hC hbu (fun w' β' v hR => hK β' _ _ (by
      unfold Stp.next
      simp only
      rw [← St.upd_append]; exact hR)))
end

/-! ### Several -/

def Chain (P : Program) (G : GI) (T : Nat → Option TI) (ops : List Oper) : St → List Stp → Prop
  | _, [] => True
  | σ, x :: r => AStep P G T ops σ x.t.i x.t.o x ∧ Chain P G T ops (x.next σ) r
def fin (σ : St) : List Stp → St
  | [] => σ
  | x :: r => fin (x.next σ) r
def EqSt (σ σ' : St) : Prop := σ.s = σ'.s ∧ σ.B = σ'.B
theorem EqSt.refl (σ : St) : EqSt σ σ := ⟨rfl, rfl⟩
theorem EqSt.trans {σ σ' σ'' : St} (h : EqSt σ σ') (k : EqSt σ' σ'') : EqSt σ σ'' := ⟨h.1.trans k.1, h.2.trans k.2⟩

theorem upd_s (σ : St) (u : List (Nat × Blk)) : (σ.upd u).s = σ.s := by rw [St.upd_eq]
theorem next_s (x : Stp) (σ : St) : (x.next σ).s = (match x.t.o.dst with | some d => setS d x.v σ.s | none => σ.s) := by
  unfold Stp.next
  rw [upd_s]
  cases x.t.o.dst <;> rfl
theorem next_B (x : Stp) (σ : St) (e : Nat) : (x.next σ).B e = getB e (updL x.u σ.b) := by
  unfold Stp.next
  rw [St.upd_eq]
  cases x.t.o.dst <;> rfl
theorem getB_updL_congr {e : Nat} : ∀ (u : List (Nat × Blk)) (b b' : List (Nat × Blk)), getB e b = getB e b' → getB e (updL u b) = getB e (updL u b')
  | [], _, _, h => h
  | (d, x) :: r, b, b', h => by
    simp only [updL]
    exact getB_updL_congr r _ _ (by rw [getB_setB, getB_setB, h])
/-- each own block's last turn counts -/
theorem getB_updL_in {e : Nat} : ∀ (u : List (Nat × Blk)) (b b' : List (Nat × Blk)), e ∈ ids u → getB e (updL u b) = getB e (updL u b')
  | [], _, _, h => by cases h
  | (d, x) :: r, b, b', h => by
    simp only [updL]
    by_cases her : e ∈ ids r
    · exact getB_updL_in r _ _ her
    · have : e = d := by simp only [ids, List.mem_cons] at h; exact h.resolve_right her
      subst this
      rw [getB_updL_ne r _ _ her, getB_updL_ne r _ _ her, getB_setB, getB_setB, if_pos rfl]; simp

theorem EqSt.next {σ σ' : St} (h : EqSt σ σ') (x : Stp) : EqSt (x.next σ) (x.next σ') :=
  ⟨by rw [next_s, next_s, h.1], funext fun e => by rw [next_B, next_B]; exact getB_updL_congr _ _ _ (congrFun h.2 e)⟩
theorem EqSt.chain {P : Program} {G : GI} {T : Nat → Option TI} {ops : List Oper} : ∀ (L : List Stp) {σ σ' : St}, EqSt σ σ' → Chain P G T ops σ L → Chain P G T ops σ' L ∧ EqSt (fin σ L) (fin σ' L)
  | [], _, _, h, _ => ⟨trivial, h⟩
  | x :: r, σ, σ', h, hc => by
    obtain ⟨q1, q2⟩ := EqSt.chain r (h.next x) hc.2
    exact ⟨⟨hc.1.loc (fun t _ => by rw [h.1]) (fun e _ => by rw [h.2]), q1⟩, q2⟩

def ap (ops : List Oper) (x y : Stp) : Prop := apart ops x.t y.t = true

theorem dstIn_ne {o : Oper} {l : List Nat} (h : (!(dstIn o l)) = true) {d : Nat} (hd : o.dst = some d) : d ∉ l := by
  unfold dstIn at h
  rw [hd] at h
  simp only [memN_eq, Bool.not_eq_true', decide_eq_false_iff_not] at h
  exact h
theorem disj_ne {l m : List Nat} (h : disj l m = true) {e : Nat} (he : e ∈ l) : e ∉ m := by
  unfold disj at h
  rw [allB_eq, List.all_eq_true] at h
  have := h e he
  simp only [memN_eq, Bool.not_eq_true', decide_eq_false_iff_not] at this
  exact this

theorem getS_setS_ne {d t : Nat} (h : t ≠ d) (v : AV) (s : List AV) : getS t (setS d v s) = getS t s := by
  rw [getS_eq, getS_eq, setS_eq, List.getElem?_set, if_neg (Ne.symm h)]

/-- Two operations that are apart, the other way round. -/
theorem swap {P : Program} {G : GI} {T : Nat → Option TI} {ops : List Oper} {σ : St} {x y : Stp} {R : List Stp} (hap : ap ops y x) (h : Chain P G T ops σ (y :: x :: R)) :
    Chain P G T ops σ (x :: y :: R) ∧ EqSt (fin σ (y :: x :: R)) (fin σ (x :: y :: R)) := by
  obtain ⟨hy, hx, hR⟩ := h
  unfold ap apart at hap
  simp only [Bool.and_eq_true] at hap
  obtain ⟨⟨⟨⟨⟨a1, a2⟩, a3⟩, a4⟩, a5⟩, a6⟩ := hap
  have hdd : ∀ d e, y.t.o.dst = some d → x.t.o.dst = some e → d ≠ e := fun d e hd he hc => by
    unfold dstEq at a3
    rw [hd, he] at a3
    simp [hc, eqN_refl] at a3
  have hx' : AStep P G T ops σ x.t.i x.t.o x := hx.loc (fun t ht => by
      rw [next_s]
      split
      · rename_i d hd
        rw [getS_setS_ne (fun hc : t = d => dstIn_ne a1 hd (hc ▸ ht))]
      · rfl) (fun e he => by
      rw [next_B, getB_updL_ne]
      · rfl
      · exact fun hc => disj_ne a5 (hy.tr.2.2.1 e hc) he)
  have hy' : AStep P G T ops (x.next σ) y.t.i y.t.o y := hy.loc (fun t ht => by
      rw [next_s]
      split
      · rename_i d hd
        rw [getS_setS_ne (fun hc : t = d => dstIn_ne a2 hd (hc ▸ ht))]
      · rfl) (fun e he => by
      rw [next_B, getB_updL_ne]
      · rfl
      · exact fun hc => disj_ne a6 (hx.tr.2.2.1 e hc) he)
  have heq : EqSt (x.next (y.next σ)) (y.next (x.next σ)) := by
    refine ⟨?_, funext fun e => ?_⟩
    · rw [next_s, next_s, next_s, next_s]
      cases hdx : x.t.o.dst with
      | none => rfl
      | some dx =>
        cases hdy : y.t.o.dst with
        | none => rfl
        | some dy =>
          simp only [setS_eq]
          exact (List.set_comm _ _ (hdd dy dx hdy hdx)).symm ▸ rfl
    · rw [next_B, next_B]
      by_cases hex : e ∈ ids x.u
      · have hey : e ∉ ids y.u := fun hc => disj_ne a4 (hy.tr.2.2.1 e hc) (hx.tr.2.2.1 e hex)
        rw [getB_updL_ne y.u _ _ hey, show getB e (x.next σ).b = _ from next_B x σ e]
        exact getB_updL_in _ _ _ hex
      · rw [getB_updL_ne x.u _ _ hex, show getB e (y.next σ).b = _ from next_B y σ e]
        refine getB_updL_congr _ _ _ ?_
        rw [show getB e (x.next σ).b = _ from next_B x σ e, getB_updL_ne x.u _ _ hex]
  obtain ⟨q1, q2⟩ := EqSt.chain R heq hR
  exact ⟨⟨hx', hy', q1⟩, q2⟩

theorem front {P : Program} {G : GI} {T : Nat → Option TI} {ops : List Oper} {x : Stp} {L2 : List Stp} : ∀ (L1 : List Stp) {σ : St}, (∀ y, y ∈ L1 → ap ops y x) → Chain P G T ops σ (L1 ++ x :: L2) →
    Chain P G T ops σ (x :: (L1 ++ L2)) ∧ EqSt (fin σ (L1 ++ x :: L2)) (fin σ (x :: (L1 ++ L2)))
  | [], _, _, h => ⟨h, EqSt.refl _⟩
  | y :: r, σ, hap, h => by
    obtain ⟨q1, q2⟩ := front r (fun z hz => hap z (by simp [hz])) h.2
    obtain ⟨k1, k2⟩ := swap (hap y (by simp)) (show Chain P G T ops σ (y :: x :: (r ++ L2)) from ⟨h.1, q1⟩)
    exact ⟨k1, q2.trans k2⟩

/-! ### A region on the machine -/

section
variable {cx : Cx} {β : Nat → Nat × Nat} {σ : St} {a : Act} {w : World}

theorem Rel.eqSt {σ' : St} (he : EqSt σ σ') (h : Rel cx β σ a w) : Rel cx β σ' a w := by
  obtain ⟨h1, h2⟩ := he
  exact ⟨by rw [← h1]; exact h.len, by rw [← h1, ← h2]; exact h.slots, h.df, by rw [← h2]; exact h.blk, by rw [← h2]; exact h.own, by rw [← h2]; exact h.inj, by rw [← h2]; exact h.fro, h.bel, h.bas, h.hS, by rw [← h2]; exact h.kp⟩

theorem wp_chain {G : GI} (hG : GOK G cx) {T : Nat → Option TI} (hT : TOK cx.P T) {ops : Array Oper} {Q : Exit → Act → World → Prop} : ∀ (L : List Stp) {β : Nat → Nat × Nat} {σ : St} {a : Act} {w : World}, Rel cx β σ a w → Chain cx.P G T ops.toList σ L →
    (∀ x, x ∈ L → ops[x.t.i]? = some x.t.o) → (∀ β' a' w', Rel cx β' (fin σ L) a' w' → Q .normal a' w') → wpOps cx.P ops Q (L.map (·.t.i)) a w
  | [], β, σ, a, w, h, _, _, hQ => hQ β a w h
  | x :: r, β, σ, a, w, h, hc, hi, hQ => by
    rw [List.map_cons, wpOps_cons]
    exact hc.1.sound hG hT h (hi x (by simp)) (fun β' a' w' hR => wp_chain hG hT r hR hc.2 (fun y hy => hi y (by simp [hy])) hQ)

theorem onL_mem : ∀ {l : List Edge} {j : Nat}, j ∈ onL l → ∃ e, e ∈ l ∧ e.on = j ∧ Region.binds .any e = true
  | [], _, h => by cases h
  | e :: r, j, h => by
    simp only [onL] at h
    split at h
    · obtain ⟨e', h1, h2⟩ := onL_mem h
      exact ⟨e', by simp [h1], h2⟩
    · obtain ⟨e', h1, h2⟩ := onL_mem h
      exact ⟨e', by simp [h1], h2⟩
    · rename_i hn1 hn2
      rcases List.mem_cons.1 h with h | h
      · refine ⟨e, by simp, h.symm, ?_⟩
        unfold Region.binds
        split
        · rename_i r hr; exact absurd hr (hn1 r)
        · rename_i r hr; exact absurd hr (hn2 r)
        · rfl
      · obtain ⟨e', h1, h2⟩ := onL_mem h
        exact ⟨e', by simp [h1], h2⟩
theorem mem_onL {e : Edge} (hb : Region.binds .any e = true) : ∀ {l : List Edge}, e ∈ l → e.on ∈ onL l
  | [], h => by cases h
  | e' :: r, h => by
    simp only [onL]
    rcases List.mem_cons.1 h with h | h
    · subst h
      unfold Region.binds at hb
      split
      · rename_i r hr; rw [hr] at hb; simp at hb
      · rename_i r hr; rw [hr] at hb; simp at hb
      · simp
    · have := mem_onL hb h
      split
      · exact this
      · exact this
      · exact List.mem_cons_of_mem _ this

/-- must come first, through others too -/
inductive Dep (ops : List Oper) (j : Nat) : Oper → Prop
  | one {o : Oper} (h : j ∈ onL o.after.toList) : Dep ops j o
  | step {o om : Oper} {m : Nat} (h : m ∈ onL o.after.toList) (hm : ops[m]? = some om) (hd : Dep ops j om) : Dep ops j o
theorem Dep.more {ops : List Oper} {j m : Nat} {o oj : Oper} (h : Dep ops j o) (hj : ops[j]? = some oj) (hm : m ∈ onL oj.after.toList) : Dep ops m o := by
  induction h with
  | one h => exact .step h hj (.one hm)
  | step h hm' _ ih => exact .step h hm' ih
theorem mem_addAll {e : Nat} : ∀ {l acc : List Nat}, e ∈ addAll l acc → e ∈ l ∨ e ∈ acc
  | [], acc, h => .inr h
  | x :: r, acc, h => by
    unfold addAll at h
    split at h
    · rcases mem_addAll h with h | h
      · exact .inl (by simp [h])
      · exact .inr h
    · rcases mem_addAll h with h | h
      · exact .inl (by simp [h])
      · rcases List.mem_cons.1 h with h | h
        · exact .inl (by simp [h])
        · exact .inr h
theorem dep_clos {ops : List Oper} {o : Oper} : ∀ (n : Nat) (acc : List Nat), (∀ e, e ∈ acc → Dep ops e o) → ∀ e, e ∈ closN ops n acc → Dep ops e o
  | 0, acc, h, e, he => h e he
  | j + 1, acc, h, e, he => by
    unfold closN at he
    split at he
    · rename_i hm
      rw [memN_eq] at hm
      have hj := h j (by simpa using hm)
      split at he
      · rename_i oj hoj
        rw [getL_eq] at hoj
        refine dep_clos j _ (fun x hx => ?_) e he
        rcases mem_addAll hx with hx | hx
        · exact hj.more hoj hx
        · exact h x hx
      · exact dep_clos j acc h e he
    · exact dep_clos j acc h e he
def Prs (ops : List Oper) (L : List Stp) : Prop := L.Pairwise (fun u x => u.t.i < x.t.i ∧ (Dep ops u.t.i x.t.o ∨ ap ops u x))

theorem wp_any {G : GI} (hG : GOK G cx) {T : Nat → Option TI} (hT : TOK cx.P T) {ops : Array Oper} {Q : Exit → Act → World → Prop} : ∀ (fuel : Nat) (L : List Stp) (listed : Array Bool) {β : Nat → Nat × Nat} {σ : St} {a : Act} {w : World}, Rel cx β σ a w → Chain cx.P G T ops.toList σ L →
    (∀ x, x ∈ L → ops[x.t.i]? = some x.t.o ∧ ∀ j, j ∈ onL x.t.o.after.toList → j < x.t.i) → Prs ops.toList L → listed.size = ops.size → (∀ j, j < ops.size → (listed.getD j true = false ↔ ∃ x, x ∈ L ∧ x.t.i = j)) → (∀ m om, ops.toList[m]? = some om → listed.getD m false = true → ∀ e, e ∈ onL om.after.toList → listed.getD e false = true) → L.length ≤ fuel →
    (∀ β' a' w', Rel cx β' (fin σ L) a' w' → Q .normal a' w') → wpAny cx.P .any ops Q fuel listed a w := by
  intro fuel
  induction fuel with
  | zero =>
    intro L listed β σ a w h hc hi hp hls hl hcl hlen hQ
    have : L = [] := List.length_eq_zero_iff.1 (Nat.le_zero.1 hlen)
    subst this
    refine ⟨?_, hQ _ _ _ h⟩
    rw [List.eq_nil_iff_forall_not_mem]
    intro j hj
    obtain ⟨h0, o, ho, -⟩ := mem_ready.1 hj
    obtain ⟨x, hx, -⟩ := (hl j (Array.getElem?_eq_some_iff.1 ho).1).1 h0
    cases hx
  | succ fuel ih =>
    intro L listed β σ a w h hc hi hp hls hl hcl hlen hQ
    refine ⟨fun hr => ?_, fun j hj => ?_⟩
    · cases L with
      | nil => exact hQ _ _ _ h
      | cons x r =>
        exfalso
        obtain ⟨hxi, hxj⟩ := hi x (by simp)
        have hlt := (Array.getElem?_eq_some_iff.1 hxi).1
        have : x.t.i ∈ Region.ready .any ops listed := mem_ready.2 ⟨(hl _ hlt).2 ⟨x, by simp, rfl⟩, x.t.o, hxi, fun e he hb => by
          have hon := mem_onL hb (show e ∈ x.t.o.after.toList by simpa using he)
          have hlt2 := hxj _ hon
          cases hq : listed.getD e.on false with
          | true => rfl
          | false =>
            exfalso
            have hsz : e.on < listed.size := by omega
            have hq' : listed.getD e.on true = false := by
              simp only [Array.getD_eq_getD_getElem?, Array.getElem?_eq_getElem hsz, Option.getD_some] at hq ⊢; exact hq
            obtain ⟨y, hy, hyi⟩ := (hl _ (by omega)).1 hq'
            rcases List.mem_cons.1 hy with rfl | hy
            · omega
            · have := ((List.pairwise_cons.1 hp).1 y hy).1
              omega⟩
        rw [hr] at this; cases this
    · obtain ⟨h0, o, ho, hall⟩ := mem_ready.1 hj
      have hjlt := (Array.getElem?_eq_some_iff.1 ho).1
      obtain ⟨x, hx, hxj⟩ := (hl j hjlt).1 h0
      obtain ⟨L1, L2, rfl⟩ := List.append_of_mem hx
      obtain ⟨hxi, hxe⟩ := hi x hx
      rw [hxj] at hxi
      obtain ⟨p1, p2, p3⟩ := List.pairwise_append.1 hp
      have hdir : ∀ e, e ∈ onL x.t.o.after.toList → listed.getD e false = true := fun j hj => by
        obtain ⟨e, he, heo, hb⟩ := onL_mem hj
        rw [hxi, Option.some.injEq] at ho
        have := hall e (by rw [← ho]; simpa using he) hb
        rw [heo] at this; exact this
      have hdep : ∀ {o' : Oper} {j' : Nat}, (∀ e, e ∈ onL o'.after.toList → listed.getD e false = true) → Dep ops.toList j' o' → listed.getD j' false = true := fun {o' j'} hd hD => by
        induction hD with
        | one h => exact hd _ h
        | step h hm _ ih => exact ih (fun e he => hcl _ _ hm (hd _ h) e he)
      have hap : ∀ y, y ∈ L1 → ap ops.toList y x := fun y hy => by
        rcases (p3 y hy x (by simp)).2 with hon | hap
        · exfalso
          have this : listed.getD y.t.i false = true := hdep hdir hon
          have hylt : y.t.i < ops.size := (Array.getElem?_eq_some_iff.1 (hi y (by simp [hy])).1).1
          have h1 := (hl _ hylt).2 ⟨y, by simp [hy], rfl⟩
          have hsz : y.t.i < listed.size := by omega
          simp only [Array.getD_eq_getD_getElem?, Array.getElem?_eq_getElem hsz, Option.getD_some] at this h1
          rw [this] at h1; cases h1
        · exact hap
      obtain ⟨q1, q2⟩ := front L1 hap hc
      have hstep : AStep cx.P G T ops.toList σ j x.t.o x := by rw [← hxj]; exact q1.1
      refine hstep.sound hG hT h hxi (fun β' a' w' hR => ih (L1 ++ L2) _ hR q1.2 (fun y hy => hi y (by rcases List.mem_append.1 hy with hy | hy <;> simp [hy])) ?_ (by simp [hls]) (fun k hk => ?_) (fun m om hm hlm e he => ?_) (by simp at hlen ⊢; omega)
        (fun β' a' w' hR' => hQ β' a' w' (hR'.eqSt ⟨q2.1.symm, q2.2.symm⟩)))
      · refine List.pairwise_append.2 ⟨p1, (List.pairwise_cons.1 p2).2, fun y hy z hz => p3 y hy z (by simp [hz])⟩
      · by_cases hkj : j = k
        · subst hkj
          have hj1 : (listed.setIfInBounds j true).getD j true = true := by
            have hs : j < listed.size := by omega
            simp [hs]
          rw [hj1]
          refine ⟨fun h => (by cases h), fun hh => ?_⟩
          obtain ⟨y, hy, hyj⟩ := hh
          exfalso
          rcases List.mem_append.1 hy with hy | hy
          · have := (p3 y hy x (by simp)).1; omega
          · have := ((List.pairwise_cons.1 p2).1 y hy).1; omega
        · rw [getD_set_ne true hkj, hl k hk]
          constructor
          · rintro ⟨y, hy, hyk⟩
            refine ⟨y, ?_, hyk⟩
            simp only [List.mem_append, List.mem_cons] at hy ⊢
            rcases hy with hy | rfl | hy
            · exact .inl hy
            · exact absurd (hxj.symm.trans hyk) hkj
            · exact .inr hy
          · rintro ⟨y, hy, hyk⟩
            exact ⟨y, by rcases List.mem_append.1 hy with hy | hy <;> simp [hy], hyk⟩
      · have hmono : ∀ q, listed.getD q false = true → (listed.setIfInBounds j true).getD q false = true := fun q hq => by
          by_cases hqj : j = q
          · subst hqj
            have hs : j < listed.size := by omega
            simp [hs]
          · rw [getD_set_ne false hqj]; exact hq
        by_cases hmj : j = m
        · subst hmj
          have hm' : om = x.t.o := by
            have : ops.toList[j]? = some x.t.o := by rw [Array.getElem?_toList]; exact hxi
            rw [this] at hm; exact (Option.some.inj hm).symm
          subst hm'
          exact hmono e (hdir e he)
        · rw [getD_set_ne false hmj] at hlm
          exact hmono e (hcl m om hm hlm e he)
end
end AB
end
section
namespace AB
open Go

section
variable {P : Program} {G : GI} {T : Nat → Option TI} {dr : Bool} {ops : List Oper} {k : St → Prop}

def HasChain (P : Program) (G : GI) (T : Nat → Option TI) (dr : Bool) (ops : List Oper) (k : St → Prop) (rest : List Oper) (i : Nat) (tr : List Tr) (σ : St) : Prop :=
  ∃ L : List Stp, L.map (·.t.o) = rest ∧ L.map (·.t.i) = List.range' i rest.length ∧ Chain P G T ops σ L ∧ k (fin σ L) ∧
    (dr = true → (∀ x, x ∈ L → (∀ j, j ∈ onL x.t.o.after.toList → j < x.t.i) ∧ ∀ u, u ∈ tr → Dep ops u.i x.t.o ∨ apart ops u x.t = true) ∧ Prs ops L)

theorem okD_ok {t : Tr} {tr : List Tr} (h : okD dr ops t tr = true) (hd : dr = true) : (∀ j, j ∈ onL t.o.after.toList → j < t.i) ∧ ∀ u, u ∈ tr → Dep ops u.i t.o ∨ apart ops u t = true := by
  subst hd
  simp only [okD, okTr] at h
  split at h
  · rename_i h1
    rw [allB_eq, List.all_eq_true] at h h1
    refine ⟨fun j hj => ltN_lt (h1 j hj), fun u hu => ?_⟩
    have := h u hu
    split at this
    · rename_i hm
      left
      exact .one (by simpa [memN_eq] using hm)
    · split at this
      · rename_i ha
        exact .inr ha
      · left
        rw [memN_eq] at this
        exact dep_clos _ _ (fun e he => .one he) _ (by simpa using this)
  · cases h

theorem HasChain.cons {o : Oper} {rest : List Oper} {i : Nat} {tr : List Tr} {σ : St} (x : Stp) (hx : AStep P G T ops σ i o x) (hok : okD dr ops x.t tr = true) (h : HasChain P G T dr ops k rest (Nat.succ i) (x.t :: tr) (x.next σ)) :
    HasChain P G T dr ops k (o :: rest) i tr σ := by
  obtain ⟨L, h1, h2, h3, h4, h5⟩ := h
  obtain ⟨e1, e2, -, -⟩ := hx.tr
  refine ⟨x :: L, by simp [h1, e2], by simp [h2, e1, List.range'_succ], ⟨by rw [e1, e2]; exact hx, h3⟩, h4, fun hd => ?_⟩
  obtain ⟨k1, k2⟩ := h5 hd
  obtain ⟨m1, m2⟩ := okD_ok hok hd
  refine ⟨fun y hy => ?_, List.pairwise_cons.2 ⟨fun y hy => ⟨?_, ?_⟩, k2⟩⟩
  · rcases List.mem_cons.1 hy with rfl | hy
    · exact ⟨m1, m2⟩
    · exact ⟨(k1 y hy).1, fun u hu => (k1 y hy).2 u (by simp [hu])⟩
  · have : y.t.i ∈ L.map (·.t.i) := List.mem_map.2 ⟨y, hy, rfl⟩
    rw [h2, List.mem_range'_1] at this
    omega
  · exact (k1 y hy).2 x.t (by simp)

theorem aOps_chain : ∀ (rest : List Oper) (i : Nat) (tr : List Tr) (σ : St), aOps (real P G) T dr ops k rest i tr σ → HasChain P G T dr ops k rest i tr σ
  | [], i, tr, σ, h => ⟨[], rfl, rfl, trivial, h, fun _ => ⟨fun x hx => (by cases hx), List.Pairwise.nil⟩⟩
  | o :: rest, i, tr, σ, h => by
    unfold aOps at h
    replace h : opStep (real P G) T dr ops (fun tr' σ' => aOps (real P G) T dr ops k rest (Nat.succ i) tr' σ') o i tr σ := by
      split at h <;> exact h
    unfold opStep at h
    split at h
    · exact h.elim
    · rename_i g hg
      cases g with
      | false =>
        simp only at h
        split at h
        · rename_i hok
          exact HasChain.cons ⟨⟨i, o, [], []⟩, .val (.tuple #[]), []⟩ (.skip hg) hok (aOps_chain rest _ _ _ h)
        · exact h.elim
      | true =>
        simp only at h
        split at h
        · rename_i c hc
          split at h
          · exact h.elim
          · rename_i g' caps hcal
            rcases h with h | h
            · split at h
              · exact h.elim
              · rename_i pre as l hv
                split at h
                · exact h.elim
                · rename_i hio
                  obtain ⟨hp, r, hC, h⟩ := h
                  split at h
                  · rename_i hok
                    exact HasChain.cons ⟨⟨i, o, ids (afterC σ.B (dstN o) l r).2, appL l (ids (afterC σ.B (dstN o) l r).2)⟩, (afterC σ.B (dstN o) l r).1, (afterC σ.B (dstN o) l r).2⟩ (.call hg hc hcal hv hp hio hC) hok (aOps_chain rest _ _ _ h)
                  · exact h.elim
            · split at h
              · exact h.elim
              · rename_i pre1 b io l1 hf
                split at h
                · exact h.elim
                · rename_i pre as l hv
                  split at h
                  · rename_i hio hb
                    obtain ⟨⟨hp1, hp⟩, r, io', hsame, hC, h⟩ := h
                    split at h
                    · exact h.elim
                    · rename_i hbu
                      split at h
                      · rename_i hok
                        rw [St.upd_append] at h
                        exact HasChain.cons ⟨⟨i, o, b :: ids (afterD σ.B (dstN o) b (appL l1 l) r).2, b :: appL (appL l1 l) (ids (afterD σ.B (dstN o) b (appL l1 l) r).2)⟩, (afterD σ.B (dstN o) b (appL l1 l) r).1, appL (afterD σ.B (dstN o) b (appL l1 l) r).2 [(b, ioBlk σ.B b io')]⟩
                          (.io hg hc hcal hf hp1 hv hp hio hb hsame hC hbu) hok (aOps_chain rest _ _ _ h)
                      · exact h.elim
                  · exact h.elim
        · rename_i hc
          split at h
          · exact h.elim
          · rename_i pre v u rd hs
            split at h
            · rename_i hok
              exact HasChain.cons ⟨⟨i, o, ids u, rd⟩, v, u⟩ (.leaf hg hc hs h.1) hok (aOps_chain rest _ _ _ h.2)
            · exact h.elim
end

theorem leastN {p : Nat → Prop} (h : ∃ m, p m) : ∃ m, p m ∧ ∀ k, p k → m ≤ k := by
  obtain ⟨m, hm⟩ := h
  induction m using Nat.strongRecOn with
  | _ m ih =>
    by_cases hk : ∃ k, k < m ∧ p k
    · obtain ⟨k, hk, hpk⟩ := hk; exact ih k hk hpk
    · exact ⟨m, hm, fun k hpk => Nat.le_of_not_lt (fun hlt => hk ⟨k, hlt, hpk⟩)⟩

theorem loop_key {P : Program} {Q : Exit → Act → World → Prop} {c : Code} (J : Nat → Act → World → Prop) (round : ∀ n a w, J n a w → c.wp P (Exit.then (fun a' w' => ∃ k, k < n ∧ J k a' w') Q) a w) {b : Frame} {k : List Go.Item} {cs : List Frame} :
    ∀ n a w, J n a w → ∃ e a' w', Q e a' w' ∧ Arrives P (lone (b.at a (.code c :: .inLoop c :: k)) cs w) b k cs e a' w' := by
  intro n
  induction n using Nat.strongRecOn with
  | _ n ih =>
    intro a w hI
    obtain ⟨e, a₁, w₁, hq, harr⟩ := round n a w hI b (.inLoop c :: k) cs
    cases e with
    | normal =>
      obtain ⟨m, hlt, hJ⟩ := hq
      obtain ⟨e₂, a₂, w₂, hq₂, harr₂⟩ := ih m hlt a₁ w₁ hJ
      exact ⟨e₂, a₂, w₂, hq₂, .of_steps (Steps.trans harr (.one step_inLoop)) harr₂⟩
    | exit id => exact ⟨_, a₁, w₁, hq, .pass (x := .inLoop c) rfl (fun _ _ => .inl (by simp)) harr⟩
    | goto l => exact ⟨_, a₁, w₁, hq, .pass (x := .inLoop c) rfl (fun _ _ => .inl (by simp)) harr⟩
    | ret => exact ⟨_, a₁, w₁, hq, .pass (x := .inLoop c) rfl (fun _ _ => .inl (by simp)) harr⟩
    | panic ch => exact ⟨_, a₁, w₁, hq, .pass (x := .inLoop c) rfl (fun _ _ => .inl (by simp)) harr⟩
    | outgrown => exact ⟨_, a₁, w₁, hq, .pass (x := .inLoop c) rfl (fun _ _ => .inl (by simp)) harr⟩
theorem wp_loop_inv {P : Program} {Q : Exit → Act → World → Prop} {a : Act} {w : World} {c : Code} (J : Nat → Act → World → Prop) (round : ∀ n a w, J n a w → c.wp P (Exit.then (fun a' w' => ∃ k, k < n ∧ J k a' w') Q) a w) {n : Nat} (h : J n a w) :
    (Code.loop c).wp P Q a w := by
  intro b k cs
  obtain ⟨e, a', w', hq, harr⟩ := loop_key J round (b := b) (k := k) (cs := cs) n a w h
  exact ⟨e, a', w', hq, .of_steps (.one step_loop) harr⟩
/-- .. the first round by itself -/
theorem wp_loop_peel {P : Program} {Q : Exit → Act → World → Prop} {a : Act} {w : World} {c : Code} (J : Nat → Act → World → Prop) (round : ∀ n a w, J n a w → c.wp P (Exit.then (fun a' w' => ∃ k, k < n ∧ J k a' w') Q) a w)
    (h : c.wp P (Exit.then (fun a' w' => ∃ n, J n a' w') Q) a w) : (Code.loop c).wp P Q a w := by
  intro b k cs
  obtain ⟨e, a₁, w₁, hq, harr⟩ := h b (.inLoop c :: k) cs
  cases e with
  | normal =>
    obtain ⟨n, hJ⟩ := hq
    obtain ⟨e₂, a₂, w₂, hq₂, harr₂⟩ := loop_key J round (b := b) (k := k) (cs := cs) n a₁ w₁ hJ
    exact ⟨e₂, a₂, w₂, hq₂, .of_steps (.one step_loop) (.of_steps (Steps.trans harr (.one step_inLoop)) harr₂)⟩
  | exit id => exact ⟨_, a₁, w₁, hq, .of_steps (.one step_loop) (.pass (x := .inLoop c) rfl (fun _ _ => .inl (by simp)) harr)⟩
  | goto l => exact ⟨_, a₁, w₁, hq, .of_steps (.one step_loop) (.pass (x := .inLoop c) rfl (fun _ _ => .inl (by simp)) harr)⟩
  | ret => exact ⟨_, a₁, w₁, hq, .of_steps (.one step_loop) (.pass (x := .inLoop c) rfl (fun _ _ => .inl (by simp)) harr)⟩
  | panic ch => exact ⟨_, a₁, w₁, hq, .of_steps (.one step_loop) (.pass (x := .inLoop c) rfl (fun _ _ => .inl (by simp)) harr)⟩
  | outgrown => exact ⟨_, a₁, w₁, hq, .of_steps (.one step_loop) (.pass (x := .inLoop c) rfl (fun _ _ => .inl (by simp)) harr)⟩

/-- what an exit of the abstract machine asks of the machine's -/
def QQ (cx : Cx) (Q : Exit → St → Prop) : Exit → Act → World → Prop
  | e, a, w => ∃ β σ, Rel cx β σ a w ∧ Q e σ

section
variable {cx : Cx}

theorem region_sound {G : GI} (hG : GOK G cx) {T : Nat → Option TI} (hT : TOK cx.P T) (hm : cx.P.follows .mixedOrders = true) {id : Nat} {ops : Array Oper} {dr : Bool} {k : St → Prop} {β : Nat → Nat × Nat} {σ : St} {a : Act} {w : World} (h : Rel cx β σ a w)
    (ha : aOps (real cx.P G) T dr ops.toList k ops.toList 0 [] σ) {Q : Exit → Act → World → Prop} (hQ : ∀ β' σ' a' w', Rel cx β' σ' a' w' → k σ' → Q .normal a' w') : (Code.region id ops dr).wp cx.P Q a w := by
  obtain ⟨L, h1, h2, h3, h4, h5⟩ := aOps_chain _ _ _ _ ha
  have hlen : L.length = ops.size := by have := congrArg List.length h1; simpa using this
  have hi : ∀ x, x ∈ L → ops[x.t.i]? = some x.t.o := fun x hx => by
    obtain ⟨n, hn, rfl⟩ := List.mem_iff_getElem.1 hx
    have e1 : (L.map (·.t.i))[n]? = some L[n].t.i := by simp [hn]
    have e2 : (L.map (·.t.o))[n]? = some L[n].t.o := by simp [hn]
    rw [h2, List.getElem?_range' (by simpa [← hlen] using hn)] at e1
    rw [h1] at e2
    have : L[n].t.i = n := by simpa using e1.symm
    rw [this]
    simpa using e2
  cases dr with
  | false =>
    refine wp_region ?_
    have := wp_chain hG hT L h h3 hi (Q := Q) (fun β' a' w' hR => hQ _ _ _ _ hR h4)
    rw [h2] at this
    simpa [List.range_eq_range'] using this
  | true =>
    refine wp_region_any hm ?_
    obtain ⟨k1, k2⟩ := h5 rfl
    refine wp_any hG hT ops.size L _ h.drew h3 (fun x hx => ⟨hi x hx, (k1 x hx).1⟩) k2 (by simp) (fun j hj => ?_) (fun m om _ hlm e _ => ?_) (by omega) (fun β' a' w' hR => hQ _ _ _ _ hR h4)
    rotate_left
    · exfalso
      have : (Array.replicate ops.size false).getD m false = false := by
        simp only [Array.getD_eq_getD_getElem?]
        by_cases hm : m < ops.size
        · simp [hm]
        · simp [hm]
      rw [this] at hlm; cases hlm
    have : (Array.replicate ops.size false).getD j true = false := by simp [hj]
    refine ⟨fun _ => ?_, fun _ => this⟩
    have hj' : j ∈ L.map (·.t.i) := by rw [h2, List.mem_range'_1]; simp [hj]
    obtain ⟨x, hx, hxj⟩ := List.mem_map.1 hj'
    exact ⟨x, hx, hxj⟩

theorem code_sound {G : GI} (hG : GOK G cx) {T : Nat → Option TI} (hT : TOK cx.P T) (hm : cx.P.follows .mixedOrders = true) : ∀ (c : Code) (Q : Exit → St → Prop) {β : Nat → Nat × Nat} {σ : St} {a : Act} {w : World}, Rel cx β σ a w → awp (real cx.P G) T c Q σ →
    c.wp cx.P (QQ cx Q) a w
  | .skip, Q, β, σ, a, w, h, ha => wp_skip ⟨β, σ, h, ha⟩
  | .ret, Q, β, σ, a, w, h, ha => wp_ret ⟨β, σ, h, ha⟩
  | .exit id, Q, β, σ, a, w, h, ha => wp_exit ⟨β, σ, h, ha⟩
  | .region id ops dr, Q, β, σ, a, w, h, ha => region_sound hG hT hm h ha (fun β' σ' a' w' hR hk => ⟨β', σ', hR, hk⟩)
  | .seq x y, Q, β, σ, a, w, h, ha => by
    simp only [awp] at ha
    split at ha
    · obtain ⟨I, hA, hI⟩ := ha
      refine wp_seq (wp_mono (code_sound hG hT hm x _ h hA) ?_)
      rintro e a' w' ⟨β', σ', hR, hq⟩
      cases e with
      | normal =>
        rcases hI σ' hq with hK | ⟨σ'', l, hw, hK⟩
        · exact code_sound hG hT hm y Q hR hK
        · obtain ⟨β'', hR''⟩ := hR.wkR hG.k hw
          exact code_sound hG hT hm y Q hR'' hK
      | _ => exact ⟨β', σ', hR, hq⟩
    · refine wp_seq (wp_mono (code_sound hG hT hm x _ h ha) ?_)
      rintro e a' w' ⟨β', σ', hR, hq⟩
      cases e with
      | normal => exact code_sound hG hT hm y Q hR hq
      | _ => exact ⟨β', σ', hR, hq⟩
  | .cond c x y, Q, β, σ, a, w, h, ha => by
    simp only [awp] at ha
    split at ha
    · rename_i t ht
      have hc : a.eval c = .bool t := by have := h.ev c; rw [ht] at this; exact this.val_inv
      refine wp_cond hc ?_
      cases t with
      | true => exact code_sound hG hT hm x Q h ha
      | false => exact code_sound hG hT hm y Q h ha
    · exact ha.elim
  | .block id c, Q, β, σ, a, w, h, ha => by
    refine wp_block (wp_mono (code_sound hG hT hm c _ h ha) ?_)
    rintro e a' w' ⟨β', σ', hR, hq⟩
    cases e with
    | exit id' =>
      simp only [blockQ] at hq
      simp only [Exit.inBlock]
      by_cases hid : id' = id
      · subst hid
        rw [eqN_refl] at hq
        simp only [if_true]
        exact ⟨β', σ', hR, hq⟩
      · rw [beq_ne hid] at hq
        simp only [hid, if_false]
        exact ⟨β', σ', hR, hq⟩
    | _ => exact ⟨β', σ', hR, hq⟩
  | .loop c, Q, β, σ, a, w, h, ha => by
    let J : Nat → Act → World → Prop := fun m a w => ∃ (I : Nat → St → Prop) (β : Nat → Nat × Nat) (σ : St), Rel cx β σ a w ∧ I m σ ∧ ∀ m σ', I m σ' → awp (real cx.P G) T c (thenQ (fun σ'' => ∃ k σ3 l, k < m ∧ I k σ3 ∧ WkR l σ'' σ3) Q) σ'
    have hround : ∀ m a w, J m a w → c.wp cx.P (Exit.then (fun a' w' => ∃ k, k < m ∧ J k a' w') (QQ cx Q)) a w := by
      rintro m a w ⟨I, β1, σ1, hR1, hI1, hI⟩
      refine wp_mono (code_sound hG hT hm c _ hR1 (hI _ σ1 hI1)) ?_
      rintro e a' w' ⟨β', σ', hR, hq⟩
      cases e with
      | normal =>
        obtain ⟨k, σ3, l, hk, hIk, hwk⟩ := hq
        obtain ⟨β3, hR3⟩ := hR.wkR hG.k hwk
        exact ⟨k, hk, I, β3, σ3, hR3, hIk, hI⟩
      | _ => exact ⟨β', σ', hR, hq⟩
    have hWL : ∀ {β : Nat → Nat × Nat} {σ : St} {a : Act} {w : World}, Rel cx β σ a w → WL (awp (real cx.P G) T c) Q σ → ∃ n, J n a w := by
      rintro β σ a w h ⟨I, ⟨n, σ0, l, h0, hw0⟩, hI⟩
      obtain ⟨β0, hR0⟩ := h.wkR hG.k hw0
      exact ⟨n, I, β0, σ0, hR0, h0, hI⟩
    rcases ha with ha | ⟨K, hK, ha⟩
    · obtain ⟨n, hJ⟩ := hWL h ha
      exact wp_loop_inv J hround hJ
    · refine wp_loop_peel J hround (wp_mono (code_sound hG hT hm c _ h ha) ?_)
      rintro e a' w' ⟨β', σ', hR, hq⟩
      cases e with
      | normal => exact hWL hR (hK _ hq)
      | _ => exact ⟨β', σ', hR, hq⟩
  | .goto _, _, _, _, _, _, _, ha => ha.elim
  | .label _, _, _, _, _, _, _, ha => ha.elim
end
end AB
end
section
namespace AB
open Go

/-- a result: the abstract one, the one that is claimed -/
def SubR : AV → AV → Prop
  | .own _ sz n f, .own cl sz' n' f' => sz = sz' ∧ n = n' ∧ (∀ i : Int, 0 ≤ i → i < n → (f i).length = (f' i).length ∧ ∀ (j : Nat) (a b : AV), (f i)[j]? = some a → (f' i)[j]? = some b → Sub a b) ∧
      (cl = true → ∀ i : Int, 0 ≤ i → i < n → ∀ a, a ∈ f' i → ∃ c, a = .val c)
  | .own .., _ => False
  | _, .own .. => False
  | a, b => Sub a b
def SubRL : List AV → List AV → Prop
  | [], [] => True
  | a :: r, b :: s => SubR a b ∧ SubRL r s
  | _, _ => False

def subL : List AV → List AV → Prop
  | [], [] => True
  | a :: r, b :: s => Sub a b ∧ subL r s
  | _, _ => False
theorem subL_get : ∀ {l m : List AV}, subL l m → l.length = m.length ∧ ∀ (j : Nat) (a b : AV), l[j]? = some a → m[j]? = some b → Sub a b
  | [], [], _ => ⟨rfl, by simp⟩
  | a :: r, b :: s, h => by
    obtain ⟨k1, k2⟩ := subL_get h.2
    refine ⟨by simp [k1], fun j x y hx hy => ?_⟩
    cases j with
    | zero => simp only [List.getElem?_cons_zero, Option.some.injEq] at hx hy; subst hx; subst hy; exact h.1
    | succ j => exact k2 j x y (by simpa using hx) (by simpa using hy)
  | [], _ :: _, h => h.elim
  | _ :: _, [], h => h.elim

inductive CR where
  | bad
  | ok (pre : Prop) (a : AV) (own vw : List Nat)
def closeA (B : Nat → Blk) (tg a : AV) : CR :=
  match tg with
  | .own .. => match a with
    | .sl d g n => match B d with
      | .arr false false g' sz n' f => match eqN g g', eqN d ioId with
        | true, false => .ok (n = n') (.own true sz n f) [d] []
        | _, _ => .bad
      | _ => .bad
    | _ => .bad
  | _ => match viewA B a with
    | .ok p a' l => .ok p a' [] l
    | .bad => .bad
def resF (L : Leaf) (T : Nat → Option TI) (σ : St) : ResultVar → SR
  | .tmp t => .ok True (getS t σ.s) [] []
  | .cell a t => loadF L T σ.B t (getS a σ.s)
inductive CRs where
  | bad
  | ok (pre : Prop) (l : List AV) (own vw : List Nat)
def closeL (L : Leaf) (T : Nat → Option TI) (σ : St) : List AV → List ResultVar → CRs
  | [], [] => .ok True [] [] []
  | tg :: tgs, r :: rs => match resF L T σ r with
    | .bad => .bad
    | .ok p v _ _ => match closeA σ.B tg v with
      | .bad => .bad
      | .ok q a o vw => match closeL L T σ tgs rs with
        | .bad => .bad
        | .ok p' l o' vw' => .ok ((p ∧ q) ∧ p') (a :: l) (appL o o') (appL vw vw')
  | _, _ => .bad
def nodupB : List Nat → Bool
  | [] => true
  | x :: r => match memN x r with
    | true => false
    | false => nodupB r
def ioOut (σ : St) (own : List Nat) : Option Inb → Prop
  | none => True
  | some (.box cs) => match σ.B ioId with
    | .box false g cs0 => match views (view0 σ.B) cs0 with
      | .ok p l i => match noIo i, disj own i with
        | true, true => g = 1 ∧ p ∧ subL l cs
        | _, _ => False
      | .bad => False
    | _ => False
  | some (.arr sz n f) => match σ.B ioId with
    | .arr false _ g sz0 n0 f0 => g = 1 ∧ sz0 = sz ∧ n0 = n ∧ ∀ i : Int, 0 ≤ i → i < n → (f0 i).length = (f i).length ∧ ∀ (j : Nat) (a b : AV), (f0 i)[j]? = some a → (f i)[j]? = some b → Sub a b
    | _ => False
def retOK (L : Leaf) (T : Nat → Option TI) (rs : List ResultVar) (r : AV) (io' : Option Inb) (σ : St) : Prop :=
  match closeL L T σ (comps r) rs with
  | .bad => False
  | .ok p l own vw => match nodupB own, disj own vw, noIo vw with
    | true, true, true => p ∧ SubRL l (comps r) ∧ ioOut σ own io'
    | _, _, _ => False
def retQ (L : Leaf) (T : Nat → Option TI) (rs : List ResultVar) (r : AV) (io' : Option Inb) : Exit → St → Prop
  | .normal, σ | .ret, σ => retOK L T rs r io' σ
  | _, _ => False

def replA : Nat → List AV
  | 0 => []
  | n + 1 => .any :: replA n
def ioSlot : Inb → AV
  | .box _ => .pb ioId 1 0
  | .arr _ n _ => .sl ioId 1 n
def ioBlk0 : Inb → Blk
  | .box cs => .box false 1 cs
  | .arr sz n f => .arr false true 1 sz n f
def entry (ntmps : Nat) (io : Option Inb) (as : List AV) : St :=
  match io with
  | none => ⟨appL as (replA (Nat.sub ntmps (lenL as))), []⟩
  | some x => ⟨ioSlot x :: appL as (replA (Nat.sub ntmps (Nat.succ (lenL as)))), [(ioId, ioBlk0 x)]⟩

theorem replA_eq : ∀ n, replA n = List.replicate n .any
  | 0 => rfl
  | n + 1 => by simp [replA, replA_eq n, List.replicate_succ]

section
variable {cx : Cx} {β : Nat → Nat × Nat} {σ : St} {a : Act} {w : World}

theorem loadVar_sound {T : Nat → Option TI} (hT : TOK cx.P T) (h : Rel cx β σ a w) {t : TypeId} {x : Nat} {pre : Prop} {v : AV} {upd : List (Nat × Blk)} {rd : List Nat}
    (hs : loadF std T σ.B t (getS x σ.s) = .ok pre v upd rd) (hp : pre) : ∃ u, (do loadVar t (← asAddr (a.tmps.getD x undef)) : Sem Value).run cx.P w = .ok u w ∧ Rep w (Fr cx w β σ.B) β σ.B v u := by
  unfold loadF at hs
  split at hs
  · rename_i ti cs off pre' rd' hti hloc
    obtain ⟨i, z, hi, hz, hsz, hby, hzc, hd, u, hu, hag⟩ := tok_info hT hti
    split at hs
    · rename_i hagg
      split at hs
      · rename_i hlen
        simp only [SR.ok.injEq] at hs
        obtain ⟨rfl, rfl, rfl, rfl⟩ := hs
        obtain ⟨blk, bo, hptr, hcell⟩ := loc_sound h (h.ev (.tmp x)) hloc hp
        have hlen := eqN_eq hlen
        rw [lenL_eq, takeL_eq, dropL_eq] at hlen
        have hex : ∀ j, ∃ y, j < ti.size → w.cell? ⟨blk, bo + off + j, none⟩ = some y ∧ ∀ x, ((cs.drop off).take ti.size)[j]? = some x → Rep w (Fr cx w β σ.B) β σ.B x y := by
          intro j
          by_cases hj : j < ti.size
          · have hjj : off + j < cs.length := by
              simp only [List.length_take, List.length_drop] at hlen; omega
            obtain ⟨y, hy, hr⟩ := hcell (off + j) _ (List.getElem?_eq_getElem hjj)
            refine ⟨y, fun _ => ⟨by rw [Nat.add_assoc]; exact hy, fun x hx => ?_⟩⟩
            rw [List.getElem?_take, if_pos hj, List.getElem?_drop, List.getElem?_eq_getElem hjj] at hx
            simp only [Option.some.injEq] at hx
            exact hx ▸ hr
          · exact ⟨undef, fun hc => absurd hc hj⟩
        let us : Nat → Value := fun j => (hex j).choose
        have hus := fun j => (hex j).choose_spec
        have hrun : (loadCells ⟨blk, bo + off, none⟩ ti.size).run cx.P w = .ok ((List.range ti.size).map us).toArray w :=
          run_loadCells w _ _ us (fun j hj => by rw [add_off]; exact (hus j hj).1)
        rw [show a.eval (.tmp x) = a.tmps.getD x undef from rfl] at hptr
        refine ⟨.agg ((List.range ti.size).map us).toArray, ?_, ?_⟩
        · rw [hptr]
          simp only [asAddr, loadVar, Sem.run_bind, Sem.run_pure, Result.andThen_ok, run_isAgg hu, run_sizeOf hi, hag, hagg, hsz, if_true, hrun]
        · refine .agg _ _ us (by simp [takeL_eq, dropL_eq, hlen]) (fun j x hx => ?_) (fun j x hx => ?_)
          · rw [takeL_eq, dropL_eq] at hx
            have hj : j < ti.size := by
              rcases Nat.lt_or_ge j ti.size with hj | hj
              · exact hj
              · rw [List.getElem?_eq_none (by rw [hlen]; exact hj)] at hx; cases hx
            simp [hj]
          · rw [takeL_eq, dropL_eq] at hx
            have hj : j < ti.size := by
              rcases Nat.lt_or_ge j ti.size with hj | hj
              · exact hj
              · rw [List.getElem?_eq_none (by rw [hlen]; exact hj)] at hx; cases hx
            exact (hus j hj).2 x hx
      · cases hs
    · rename_i hagg
      split at hs
      · rename_i v' hv'
        simp only [SR.ok.injEq] at hs
        obtain ⟨rfl, rfl, rfl, rfl⟩ := hs
        obtain ⟨blk, bo, hptr, hcell⟩ := loc_sound h (h.ev (.tmp x)) hloc hp
        rw [getL_eq] at hv'
        obtain ⟨y, hy, hr⟩ := hcell off _ hv'
        rw [show a.eval (.tmp x) = a.tmps.getD x undef from rfl] at hptr
        refine ⟨y, ?_, hr⟩
        rw [hptr]
        simp only [asAddr, loadVar, Sem.run_bind, Sem.run_pure, Result.andThen_ok, run_isAgg hu, hag, hagg, Bool.false_eq_true, if_false, run_load, hy]
      · cases hs
  · cases hs

def resM (tmps : Array Value) : ResultVar → Sem Value
  | .tmp t => pure (tmps.getD t undef)
  | .cell a t => do loadVar t (← asAddr (tmps.getD a undef))

theorem res_sound {T : Nat → Option TI} (hT : TOK cx.P T) (h : Rel cx β σ a w) {rv : ResultVar} {pre : Prop} {v : AV} {upd : List (Nat × Blk)} {rd : List Nat} (hs : resF std T σ rv = .ok pre v upd rd) (hp : pre) :
    ∃ u, (resM a.tmps rv).run cx.P w = .ok u w ∧ Rep w (Fr cx w β σ.B) β σ.B v u := by
  cases rv with
  | tmp t =>
    simp only [resF, SR.ok.injEq] at hs
    obtain ⟨-, rfl, -⟩ := hs
    exact ⟨_, rfl, h.ev (.tmp t)⟩
  | cell x t => exact loadVar_sound hT h hs hp

/-- one result, closed -/
def CloseOK (cx : Cx) (β : Nat → Nat × Nat) (σ : St) (w : World) (a : AV) (u : Value) (o vw : List Nat) : Prop :=
  (∀ d, d ∈ vw → σ.B d ≠ .none) ∧
  ((o = [] ∧ RepC w (F1 cx w β σ.B vw) a u ∧ (∀ cl sz n f, a ≠ .own cl sz n f)) ∨
   ∃ d g sz n f, o = [d] ∧ vw = [] ∧ a = .own true sz n f ∧ σ.B d = .arr false false g sz n f ∧ d ≠ ioId ∧ u = .slice (some ⟨(β d).1, 0, none⟩) n.toNat (β d).2)

theorem view0_notOwn {B : Nat → Blk} {x a' : AV} {p : Prop} {l : List Nat} (h : view0 B x = .ok p a' l) : ∀ cl sz n f, a' ≠ .own cl sz n f := by
  intro cl sz n f hc
  subst hc
  unfold view0 at h
  repeat' split at h
  all_goals simp only [VR.ok.injEq, reduceCtorEq, false_and, and_false] at h
theorem viewA_notOwn {B : Nat → Blk} {x a' : AV} {p : Prop} {l : List Nat} (h : viewA B x = .ok p a' l) : ∀ cl sz n f, a' ≠ .own cl sz n f := by
  intro cl sz n f hc
  subst hc
  unfold viewA at h
  split at h
  · split at h <;> simp only [VR.ok.injEq, reduceCtorEq, false_and, and_false] at h
  · split at h <;> simp only [VR.ok.injEq, reduceCtorEq, false_and, and_false] at h
  · unfold view1 at h
    split at h
    · repeat' split at h
      all_goals simp only [VR.ok.injEq, reduceCtorEq, false_and, and_false] at h
    · exact view0_notOwn h _ _ _ _ rfl

theorem closeA_sound (h : Rel cx β σ a w) {tg x a' : AV} {p : Prop} {o vw : List Nat} (hc : closeA σ.B tg x = .ok p a' o vw) (hp : p) {u : Value} (hx : Rep w (Fr cx w β σ.B) β σ.B x u) : CloseOK cx β σ w a' u o vw := by
  have hview : ∀ {p a' o vw}, (match viewA σ.B x with
    | .ok p a' l => CR.ok p a' [] l
    | .bad => .bad) = .ok p a' o vw → p → CloseOK cx β σ w a' u o vw := by
    intro p a' o vw hc hp
    split at hc
    · rename_i hv
      simp only [CR.ok.injEq] at hc
      obtain ⟨rfl, rfl, rfl, rfl⟩ := hc
      obtain ⟨k1, k2⟩ := viewA_sound h _ _ _ _ _ hv hp hx
      exact ⟨k2, .inl ⟨rfl, k1, viewA_notOwn hv⟩⟩
    · cases hc
  unfold closeA at hc
  split at hc
  · split at hc
    · rename_i d g n
      split at hc
      · rename_i g' sz n' f hB
        split at hc
        · rename_i hg hd
          obtain rfl := eqN_eq hg
          simp only [CR.ok.injEq] at hc
          obtain ⟨rfl, rfl, rfl, rfl⟩ := hc
          obtain rfl := hp
          refine ⟨by simp, .inr ⟨d, _, sz, _, f, rfl, rfl, rfl, hB, fun hc => ?_, hx.sl_inv.2.2 _ _ _ _ hB⟩⟩
          subst hc
          simp [eqN_refl] at hd
        · cases hc
      · cases hc
    · cases hc
  · exact hview hc hp

theorem closeL_sound {T : Nat → Option TI} (hT : TOK cx.P T) (h : Rel cx β σ a w) : ∀ (tgs : List AV) (rs : List ResultVar) {p : Prop} {l : List AV} {o vw : List Nat}, closeL std T σ tgs rs = .ok p l o vw → p →
    ∃ us : List Value, (rs.mapM (resM a.tmps)).run cx.P w = .ok us w ∧ us.length = l.length ∧ l.length = tgs.length ∧ ∃ os vs : Nat → List Nat, o = (List.range l.length).flatMap os ∧ vw = (List.range l.length).flatMap vs ∧
      ∀ j x, l[j]? = some x → ∃ u, us[j]? = some u ∧ CloseOK cx β σ w x u (os j) (vs j)
  | [], [], p, l, o, vw, hc, _ => by
    simp only [closeL, CRs.ok.injEq] at hc
    obtain ⟨-, rfl, rfl, rfl⟩ := hc
    exact ⟨[], rfl, rfl, rfl, fun _ => [], fun _ => [], rfl, rfl, by simp⟩
  | tg :: tgs, rv :: rs, p, l, o, vw, hc, hp => by
    unfold closeL at hc
    split at hc
    · cases hc
    · rename_i p1 v _ _ hr
      split at hc
      · cases hc
      · rename_i q x o1 vw1 ha
        split at hc
        · cases hc
        · rename_i p' l' o' vw' hl
          simp only [CRs.ok.injEq, appL_eq] at hc
          obtain ⟨rfl, rfl, rfl, rfl⟩ := hc
          obtain ⟨u, hu, hrep⟩ := res_sound hT h hr hp.1.1
          obtain ⟨us, h1, h2, h3, os, vs, h4, h5, h6⟩ := closeL_sound hT h tgs rs hl hp.2
          refine ⟨u :: us, ?_, by simp [h2], by simp [h3], fun j => match j with | 0 => o1 | j + 1 => os j, fun j => match j with | 0 => vw1 | j + 1 => vs j, ?_, ?_, fun j y hy => ?_⟩
          · rw [List.mapM_cons]
            simp only [Sem.run_bind, hu, Result.andThen_ok, h1, Sem.run_pure]
          · rw [h4, List.length_cons, List.range_succ_eq_map, List.flatMap_cons, List.flatMap_map]
          · rw [h5, List.length_cons, List.range_succ_eq_map, List.flatMap_cons, List.flatMap_map]
          · cases j with
            | zero =>
              simp only [List.getElem?_cons_zero, Option.some.injEq] at hy ⊢
              subst hy
              exact ⟨u, rfl, closeA_sound h ha hp.1.2 hrep⟩
            | succ j => exact h6 j y (by simpa using hy)
  | [], _ :: _, _, _, _, _, hc, _ => by simp [closeL] at hc
  | _ :: _, [], _, _, _, _, hc, _ => by simp [closeL] at hc

end
end AB
end
section
namespace AB
open Go

theorem nodupB_ok : ∀ {l : List Nat}, nodupB l = true → l.Nodup
  | [], _ => List.nodup_nil
  | x :: r, h => by
    unfold nodupB at h
    split at h
    · cases h
    · rename_i hm
      rw [List.nodup_cons]
      exact ⟨by simpa [memN_eq] using hm, nodupB_ok h⟩

theorem flat_one {α : Type} {os : Nat → List α} {n : Nat} (h : ((List.range n).flatMap os).Nodup) {i j : Nat} (hi : i < n) (hj : j < n) {d : α} (hdi : d ∈ os i) (hdj : d ∈ os j) : i = j := by
  rcases Nat.lt_trichotomy i j with hlt | heq | hlt
  · exfalso
    have hp := (List.pairwise_flatMap.1 (show List.Pairwise (· ≠ ·) _ from h)).2
    have := List.pairwise_iff_getElem.1 hp i j (by simpa using hi) (by simpa using hj) hlt
    simp only [List.getElem_range] at this
    exact this d hdi d hdj rfl
  · exact heq
  · exfalso
    have hp := (List.pairwise_flatMap.1 (show List.Pairwise (· ≠ ·) _ from h)).2
    have := List.pairwise_iff_getElem.1 hp j i (by simpa using hj) (by simpa using hi) hlt
    simp only [List.getElem_range] at this
    exact this d hdj d hdi rfl

theorem SubRL_get : ∀ {l m : List AV}, SubRL l m → l.length = m.length ∧ ∀ (j : Nat) (a b : AV), l[j]? = some a → m[j]? = some b → SubR a b
  | [], [], _ => ⟨rfl, by simp⟩
  | a :: r, b :: s, h => by
    obtain ⟨k1, k2⟩ := SubRL_get h.2
    refine ⟨by simp [k1], fun j x y hx hy => ?_⟩
    cases j with
    | zero => simp only [List.getElem?_cons_zero, Option.some.injEq] at hx hy; subst hx; subst hy; exact h.1
    | succ j => exact k2 j x y (by simpa using hx) (by simpa using hy)
  | [], _ :: _, h => h.elim
  | _ :: _, [], h => h.elim

theorem results_run {P : Program} {fn : Func} {tmps : Array Value} {us : List Value} {w : World} (h : (fn.results.toList.mapM (resM tmps)).run P w = .ok us w) : (results fn tmps).run P w = .ok (if hs : us.toArray.size = 1 then us.toArray[0] else .tuple us.toArray) w := by
  have e : results fn tmps = (do
      let vs ← fn.results.mapM (resM tmps)
      pure (if h : vs.size = 1 then vs[0] else .tuple vs)) := by
    unfold results
    refine congrArg (fun g => (fn.results.mapM g >>= fun vs => pure (if h : vs.size = 1 then vs[0] else .tuple vs) : Sem Value)) ?_
    funext x; cases x <;> rfl
  rw [e, Array.mapM_eq_mapM_toList]
  simp only [Sem.run_bind, Sem.run_map, h, Sem.run_pure, Result.andThen_ok]

section
variable {cx : Cx} {β : Nat → Nat × Nat} {σ : St} {a : Act} {w : World}

/-- the end of a function -/
theorem ret_sound {T : Nat → Option TI} (hT : TOK cx.P T) (h : Rel cx β σ a w) (hbase : cx.base = cx.w0.heap.size) {fn : Func} {r : AV} {io' : Option Inb} {loc : Nat × Nat} (hβ : ∀ y, io' = some y → Rep w (Fr cx w β σ.B) β σ.B (ioSlot y) (ioVal loc y))
    (hnt : ∀ rs, r = .tup rs → rs.length ≠ 1) (hr : retOK std T fn.results.toList r io' σ) :
    a.defers = [] ∧ ∃ v, (results fn a.tmps).run cx.P w = .ok v w ∧ Post cx.base cx.w0 cx.S cx.X r loc io' (.returned v) w := by
  refine ⟨h.df, ?_⟩
  unfold retOK at hr
  split at hr
  · exact hr.elim
  · rename_i p l own vw hcl
    split at hr
    · rename_i hnd hdj hni
      obtain ⟨hp, hsub, hio⟩ := hr
      obtain ⟨us, h1, h2, h3, os, vs, h4, h5, h6⟩ := closeL_sound hT h _ _ hcl hp
      obtain ⟨s1, s2⟩ := SubRL_get hsub
      have hnd := nodupB_ok hnd
      rw [h4] at hnd
      have hmo : ∀ {j d}, j < l.length → d ∈ os j → d ∈ own := fun hj hd => by rw [h4]; exact List.mem_flatMap.2 ⟨_, by simpa using hj, hd⟩
      have hmv : ∀ {j d}, j < l.length → d ∈ vs j → d ∈ vw := fun hj hd => by rw [h5]; exact List.mem_flatMap.2 ⟨_, by simpa using hj, hd⟩
      let bl : Nat → Nat × Nat := fun j => β ((os j).headD 0)
      have get : ∀ j b, (comps r)[j]? = some b → ∃ x u, j < l.length ∧ l[j]? = some x ∧ us[j]? = some u ∧ CloseOK cx β σ w x u (os j) (vs j) ∧ SubR x b := fun j b hb => by
        have hj : j < l.length := by rw [s1]; exact (List.getElem?_eq_some_iff.1 hb).1
        obtain ⟨u, hu, hc⟩ := h6 j _ (List.getElem?_eq_getElem hj)
        exact ⟨_, u, hj, List.getElem?_eq_getElem hj, hu, hc, s2 j _ b (List.getElem?_eq_getElem hj) hb⟩
      have owns : ∀ j, OwnAt (comps r) j → ∃ d g sz n f cl f', j < l.length ∧ os j = [d] ∧ σ.B d = .arr false false g sz n f ∧ d ≠ ioId ∧ us[j]? = some (.slice (some ⟨(β d).1, 0, none⟩) n.toNat (β d).2) ∧ (comps r)[j]? = some (.own cl sz n f') ∧
          (∀ i : Int, 0 ≤ i → i < n → (f i).length = (f' i).length ∧ ∀ (j : Nat) (a b : AV), (f i)[j]? = some a → (f' i)[j]? = some b → Sub a b) ∧ (cl = true → ∀ i : Int, 0 ≤ i → i < n → ∀ a, a ∈ f' i → ∃ c, a = .val c) := by
        rintro j ⟨cl, sz', n', f', hj⟩
        obtain ⟨x, u, hjl, hx, hu, ⟨-, hc⟩, hs⟩ := get j _ hj
        rcases hc with ⟨ho, hrep, hno⟩ | ⟨d, g, sz, n, f, ho, hv, rfl, hB, hd, rfl⟩
        · exfalso
          cases x <;> simp only [SubR] at hs
          exact hno _ _ _ _ rfl
        · obtain ⟨rfl, rfl, k1, k2⟩ := hs
          exact ⟨d, g, sz, n, f, cl, f', hjl, ho, hB, hd, hu, hj, k1, k2⟩
      have hFR : ∀ b, Fr cx w β σ.B b → FR cx.base w cx.S (comps r) bl b := by
        rintro b ⟨k1, k2, k3⟩
        refine ⟨k1, k2, fun j hj => ?_⟩
        obtain ⟨d, g, sz, n, f, cl, f', hjl, ho, hB, hd, -⟩ := owns j hj
        simp only [bl, ho, List.headD_cons]
        exact k3 d (by rw [live_iff, hB]; trivial)
      have hF1 : ∀ (l1 : List Nat), (∀ d, d ∈ l1 → σ.B d ≠ .none ∧ d ≠ ioId ∧ d ∉ own) → ∀ b, F1 cx w β σ.B l1 b → FR cx.base w cx.S (comps r) bl b := by
        rintro l1 hl1 b (hb | ⟨d, hd, rfl⟩)
        · exact hFR b hb
        · obtain ⟨hn, hi, hno⟩ := hl1 d hd
          by_cases hlv : live σ.B d
          · refine ⟨.inr ((h.own d hlv).resolve_right (fun hc => hi hc.1)), (h.blk d).lt hn, fun j hj => ?_⟩
            obtain ⟨e, g, sz, n, f, cl, f', hjl, ho, hB, he, -⟩ := owns j hj
            simp only [bl, ho, List.headD_cons]
            intro heq
            have := h.inj e d (by rw [live_iff, hB]; trivial) hlv heq
            exact hno (this ▸ hmo hjl (by rw [ho]; simp))
          · exact hFR _ (h.fro d hn hlv)
      have hvw : ∀ {j}, j < l.length → (∀ d, d ∈ vs j → σ.B d ≠ .none) → ∀ d, d ∈ vs j → σ.B d ≠ .none ∧ d ≠ ioId ∧ d ∉ own := fun hj hne d hd =>
        ⟨hne d hd, noIo_ok hni d (hmv hj hd), fun hc => disj_ne hdj hc (hmv hj hd)⟩
      have hres : ResL cx.base w cx.S (comps r) us bl := by
        refine ⟨by rw [h2, s1], fun j cl sz n f hj => ?_, fun j j' hj hj' heq => ?_, fun j x hj hno => ?_⟩
        · obtain ⟨d, g, sz0, n0, f0, cl0, f', hjl, ho, hB, hd, hu, hj2, k1, k2⟩ := owns j ⟨cl, sz, n, f, hj⟩
          rw [hj, Option.some.injEq, AV.own.injEq] at hj2
          obtain ⟨rfl, rfl, rfl, rfl⟩ := hj2
          have hb : bl j = β d := by simp only [bl, ho, List.headD_cons]
          rw [hb]
          refine ⟨(h.own d (by rw [live_iff, hB]; trivial)).resolve_right (fun hc => hd hc.1), hu, ?_, k2⟩
          have hbk := h.blk d
          unfold BlkOK at hbk
          rw [hB] at hbk
          obtain ⟨c, t, fr, len, q0, q1, q2, q3, q4, q5, q6, q7⟩ := hbk
          refine ⟨c, t, fr, len, q0, q1, q2, q3, q4, q5, fun _ => q6 rfl, fun i hi => ?_⟩
          obtain ⟨m1, m2⟩ := k1 i (by omega) (by omega)
          refine ⟨by rw [← m1]; exact (q7 i hi).1, fun m y hy => ?_⟩
          obtain ⟨x, hx⟩ := sub_get m1 hy
          obtain ⟨z, hz, hz1, hzr⟩ := (q7 i hi).2 m x hx
          exact ⟨z, hz, hz1, (hzr.sub (m2 m x y hx hy)).mono hFR (fun _ _ _ => rfl)⟩
        · obtain ⟨d, g, sz, n, f, cl, f', hjl, ho, hB, hd, -⟩ := owns j hj
          obtain ⟨d', g', sz', n', f0', cl', f'', hjl', ho', hB', hd', -⟩ := owns j' hj'
          simp only [bl, ho, ho', List.headD_cons] at heq
          have := h.inj d d' (by rw [live_iff, hB]; trivial) (by rw [live_iff, hB']; trivial) heq
          subst this
          exact flat_one (d := d) hnd hjl hjl' (by rw [ho]; simp) (by rw [ho']; simp)
        · obtain ⟨y, u, hjl, hy, hu, ⟨hne, hc⟩, hs⟩ := get j x hj
          refine ⟨u, hu, ?_⟩
          rcases hc with ⟨ho, hrep, hnoy⟩ | ⟨d, g, sz, n, f, ho, hv, rfl, hB, hd, rfl⟩
          · have hsub : Sub y x := by
              cases x with
              | own cl sz n f => exact absurd ⟨cl, sz, n, f, hj⟩ hno
              | _ => cases y <;> first | exact absurd rfl (hnoy _ _ _ _) | exact hs
            exact (hrep.sub hsub).mono (hF1 _ (hvw hjl hne)) (fun _ _ _ => rfl)
          · exfalso
            cases x <;> first | exact hs | exact hno ⟨_, _, _, _, hj⟩
      -- the shape
      have hshape : ∃ v, (if hs : us.toArray.size = 1 then us.toArray[0] else .tuple us.toArray) = v ∧ shapeOf r v us := by
        refine ⟨_, rfl, ?_⟩
        have hlen : us.length = (comps r).length := by rw [h2, s1]
        cases r with
        | tup rs =>
          have : us.length ≠ 1 := by rw [hlen]; exact hnt rs rfl
          simp only [shapeOf, List.size_toArray, this, dif_neg, not_false_eq_true]
        | _ =>
          have h1 : us.length = 1 := hlen
          obtain ⟨u, rfl⟩ := List.length_eq_one_iff.1 h1
          simp [shapeOf]
      obtain ⟨v, hv, hsh⟩ := hshape
      refine ⟨v, by rw [results_run h1, hv], v, us, bl, rfl, hsh, by rw [hbase]; rw [← hbase]; exact h.bel, hres, ?_⟩
      cases io' with
      | none => trivial
      | some x =>
        have hβ := hβ x rfl
        cases x with
        | box cs =>
          simp only [ioOut] at hio
          split at hio
          · rename_i g cs0 hB
            split at hio
            · rename_i p' l' i hv'
              split at hio
              · rename_i hi1 hi2
                obtain ⟨rfl, hp', hsl⟩ := hio
                obtain ⟨hl', hsb⟩ := subL_get hsl
                have hloc : (β ioId).1 = loc.1 := by
                  have := hβ.pb_inv.2 _ _ hB
                  simp only [ioVal, Value.pointer.injEq, Option.some.injEq, Addr.mk.injEq] at this
                  exact this.1.symm
                have hbk := h.blk ioId
                unfold BlkOK at hbk
                rw [hB, hloc] at hbk
                obtain ⟨c, t, fr, k1, k2, k3, k4⟩ := hbk
                obtain ⟨g1, g2, g3⟩ := views_sound (view0_sound h) cs0 (fun j => (c[j]?).getD undef) _ _ _ hv' hp' (fun j x hx => by
                    obtain ⟨y, hy, hr⟩ := k4 j x hx
                    rw [hy]; exact hr)
                refine ⟨c, t, fr, k1, by rw [k2, ← g1, hl'], k3, fun j x hx => ?_⟩
                obtain ⟨y, hy⟩ := sub_get hl' hx
                have hj : j < c.size := by rw [k2, ← g1]; exact (List.getElem?_eq_some_iff.1 hy).1
                have := g3 j y hy
                rw [Array.getElem?_eq_getElem hj] at this ⊢
                exact ⟨_, rfl, (this.sub (hsb j y x hy hx)).mono (hF1 _ (fun d hd => ⟨g2 d hd, noIo_ok hi1 d hd, fun hc => disj_ne hi2 hc hd⟩)) (fun _ _ _ => rfl)⟩
              · exact hio.elim
            · exact hio.elim
          · exact hio.elim
        | arr sz n f =>
          simp only [ioOut] at hio
          split at hio
          · rename_i fx g sz0 n0 f0 hB
            obtain ⟨rfl, rfl, rfl, hsb⟩ := hio
            have hloc : β ioId = loc := by
              have := hβ.sl_inv.2.2 _ _ _ _ hB
              simp only [ioVal, Value.slice.injEq, Option.some.injEq, Addr.mk.injEq] at this
              exact Prod.ext this.1.1.symm this.2.2.symm
            have hbk := h.blk ioId
            unfold BlkOK at hbk
            rw [hB, hloc] at hbk
            obtain ⟨c, t, fr, len, q0, q1, q2, q3, q4, q5, q6, q7⟩ := hbk
            refine ⟨c, t, fr, len, q0, q1, q2, q3, q4, q5, (fun hc => by cases hc), fun i hi => ?_⟩
            obtain ⟨m1, m2⟩ := hsb i (by omega) (by omega)
            refine ⟨by rw [← m1]; exact (q7 i hi).1, fun m y hy => ?_⟩
            obtain ⟨x, hx⟩ := sub_get m1 hy
            obtain ⟨z, hz, hz1, hzr⟩ := (q7 i hi).2 m x hx
            exact ⟨z, hz, hz1, (hzr.sub (m2 m x y hx hy)).mono hFR (fun _ _ _ => rfl)⟩
          · exact hio.elim
    · exact hr.elim
end
end AB
end
section
namespace AB
open Go

theorem lenL_len {α : Type} (l : List α) : lenL l = l.length := lenL_eq l

/-- A contract, out of the abstract run of the function's code. -/
theorem con_of_awp {P : Program} {G : GI} {T : Nat → Option TI} (hT : TOK P T) (hm : P.follows .mixedOrders = true) {f : Nat} {fn : Func} {c : Code} (hf : P.funcs[f]? = some fn) (hb : fn.body = some c)
    (hname : (fn.name == "runtime.NumGoroutine") = false) {io : Option Inb} {as : List AV} {r : AV} {io' : Option Inb} (hnt : ∀ rs, r = .tup rs → rs.length ≠ 1) (hsame : ∀ x y, io = some x → io' = some y → sameIO x y)
    (h : awp (real P G) T c (retQ std T fn.results.toList r io') (entry fn.ntmps io as)) : Con P G f io as r io' := by
  refine ⟨⟨fn, hf, by rw [hb]; rfl, hname⟩, fun w F loc vs hGok hF hrep => ?_⟩
  cases io with
  | none =>
    simp only
    let cx : Cx := ⟨P, w.heap.size, w, F, fun _ => False, none⟩
    have hG : GOK G cx := ⟨hGok, hGok.1, fun b hb => hb.elim, fun _ _ e => by cases e⟩
    have hB : (entry fn.ntmps none as).B = fun _ => .none := by funext e; rfl
    have hFr : ∀ b, F b → Fr cx w (fun _ => loc) (fun _ => .none) b := fun b hb => ⟨.inl hb, hF b hb, fun d hd => by rw [live_iff] at hd; exact hd.elim⟩
    have hR : Rel cx (fun _ => loc) (entry fn.ntmps none as) { tmps := vs.toArray ++ Array.replicate (fn.ntmps - vs.toArray.size) undef, defers := [] } w := by
      refine ⟨?_, fun i x hx => ?_, rfl, fun d => ?_, fun d hd => ?_, fun d d' hd => ?_, fun d hd => ?_, BelowX.refl _ _ _, Nat.le_refl _, fun b hb => ⟨hF b hb, fun h => h⟩, fun _ _ e => by cases e⟩
      · simp [entry, appL_eq, replA_eq, lenL_eq, hrep.1]
      · rw [hB]
        simp only [entry, appL_eq, replA_eq, lenL_eq, getS_eq]
        by_cases hi : i < vs.length
        · rw [List.getElem?_append_left (by rw [← hrep.1]; exact hi)]
          rw [Array.getElem?_append_left (by simpa using hi)] at hx
          have hi' : i < as.length := by rw [← hrep.1]; exact hi
          obtain ⟨y, hy, hr⟩ := hrep.2 i _ (List.getElem?_eq_getElem hi')
          rw [List.getElem?_toArray, hy] at hx
          simp only [Option.some.injEq] at hx
          subst hx
          rw [List.getElem?_eq_getElem hi']
          exact .cl (hr.mono hFr (fun _ _ _ => rfl))
        · rw [List.getElem?_append_right (by rw [← hrep.1]; omega), List.getElem?_replicate]
          split <;> exact .cl (.any _)
      · unfold BlkOK; rw [hB]; trivial
      · rw [hB, live_iff] at hd; exact hd.elim
      · rw [hB, live_iff] at hd; exact hd.elim
      · rw [hB] at hd; exact absurd rfl hd
    refine calls_of_wp hf hb (wp_mono (code_sound hG hT hm c _ hR h) ?_)
    rintro e a' w' ⟨β', σ', hR', hq⟩
    have key : retOK std T fn.results.toList r io' σ' → a'.defers = [] ∧ ∃ v, (results fn a'.tmps).run P w' = .ok v w' ∧ Post w.heap.size w F (fun _ => False) r loc none (.returned v) w' := fun hq => by
      have hq' : retOK std T fn.results.toList r none σ' := by
        unfold retOK at hq ⊢
        split at hq
        · exact hq
        · split at hq
          · exact ⟨hq.1, hq.2.1, trivial⟩
          · exact hq.elim
      exact ret_sound (cx := cx) hT hR' rfl (fun _ hc => by cases hc) hnt hq'
    cases e with
    | normal => exact key hq
    | ret => exact key hq
    | _ => exact hq.elim
  | some x =>
    simp only
    intro hat hnF hN hlt y hy
    subst hy
    let cx : Cx := ⟨P, w.heap.size, w, F, fun b => b = loc.1, some (ioSlot x, ioVal loc x)⟩
    have hG : GOK G cx := ⟨hGok, hGok.1, fun b hb => by rw [hb]; exact hN, fun x' v' e => by
      simp only [cx, Option.some.injEq, Prod.mk.injEq] at e
      obtain ⟨rfl, rfl⟩ := e
      cases x with
      | box cs => exact .inr ⟨0, rfl⟩
      | arr sz n f => exact .inl ⟨n, rfl⟩⟩
    have hB : ∀ e, (entry fn.ntmps (some x) as).B e = if e = ioId then ioBlk0 x else .none := fun e => by
      show getB e [(ioId, ioBlk0 x)] = _
      by_cases he : e = ioId
      · subst he; simp [getB, eqN_refl]
      · rw [if_neg he]; simp [getB, beq_ne (Ne.symm he)]
    have hBio : (entry fn.ntmps (some x) as).B ioId = ioBlk0 x := by rw [hB, if_pos rfl]
    have hlv : ∀ d, live (entry fn.ntmps (some x) as).B d → d = ioId := fun d hd => by
      rw [live_iff, hB] at hd
      by_cases he : d = ioId
      · exact he
      · rw [if_neg he] at hd; exact hd.elim
    have hFr : ∀ b, F b → Fr cx w (fun _ => loc) (entry fn.ntmps (some x) as).B b := fun b hb => ⟨.inl hb, hF b hb, fun d hd hc => hnF (hc ▸ hb)⟩
    have hslot : Rep w (Fr cx w (fun _ => loc) (entry fn.ntmps (some x) as).B) (fun _ => loc) (entry fn.ntmps (some x) as).B (ioSlot x) (ioVal loc x) := by
      cases x with
      | box cs => exact .pb _ _ _ _ rfl (by rw [hBio]; exact Nat.le_refl _) (fun fz cs' hb => rfl)
      | arr sz n f =>
        refine .sl _ _ _ _ rfl (by rw [hBio]; exact Nat.le_refl _) (fun fz fx sz' n' f' hb => ?_) (fun fz fx sz' f' hb => rfl)
        rw [hBio] at hb
        simp only [ioBlk0, Blk.arr.injEq] at hb
        rw [hb.2.2.2.2.1]; exact Int.le_refl _
    have hR : Rel cx (fun _ => loc) (entry fn.ntmps (some x) as) { tmps := (ioVal loc x :: vs).toArray ++ Array.replicate (fn.ntmps - (ioVal loc x :: vs).toArray.size) undef, defers := [] } w := by
      refine ⟨?_, fun i z hz => ?_, rfl, fun d => ?_, fun d hd => ?_, fun d d' hd hd' _ => by rw [hlv d hd, hlv d' hd'], fun d hd hnl => ?_, BelowX.refl _ _ _, Nat.le_refl _, fun b hb => ⟨hF b hb, fun hc => hnF (by rw [← hc]; exact hb)⟩, fun x' v' e => by
        simp only [cx, Option.some.injEq, Prod.mk.injEq] at e
        obtain ⟨rfl, rfl⟩ := e
        exact hslot⟩
      · simp [entry, appL_eq, replA_eq, lenL_eq, hrep.1]; omega
      · cases i with
        | zero =>
          rw [Array.getElem?_append_left (by simp)] at hz
          simp only [List.getElem?_toArray, List.getElem?_cons_zero, Option.some.injEq] at hz
          subst hz
          exact hslot
        | succ i =>
          have hg : getS (i + 1) (entry fn.ntmps (some x) as).s = ((as ++ List.replicate (fn.ntmps - (as.length + 1)) .any)[i]?).getD .any := by
            rw [getS_eq]
            simp [entry, appL_eq, replA_eq, lenL_eq]
          rw [hg]
          by_cases hi : i < vs.length
          · rw [List.getElem?_append_left (by rw [← hrep.1]; exact hi)]
            rw [Array.getElem?_append_left (by simp; omega)] at hz
            have hi' : i < as.length := by rw [← hrep.1]; exact hi
            obtain ⟨y, hy, hr⟩ := hrep.2 i _ (List.getElem?_eq_getElem hi')
            rw [List.getElem?_toArray, List.getElem?_cons_succ, hy] at hz
            simp only [Option.some.injEq] at hz
            subst hz
            rw [List.getElem?_eq_getElem hi']
            exact .cl (hr.mono hFr (fun _ _ _ => rfl))
          · rw [List.getElem?_append_right (by rw [← hrep.1]; omega), List.getElem?_replicate]
            split <;> exact .cl (.any _)
      · by_cases hd : d = ioId
        · subst hd
          unfold BlkOK
          rw [hBio]
          cases x with
          | box cs =>
            obtain ⟨cc, t, fr, k1, k2, k3, k4⟩ := hat
            exact ⟨cc, t, fr, k1, k2, k3, fun j y hy => let ⟨z, hz, hr⟩ := k4 j y hy; ⟨z, hz, .cl (hr.mono hFr (fun _ _ _ => rfl))⟩⟩
          | arr sz n f =>
            obtain ⟨cc, t, fr, len, k0, k1, k2, k3, k4, k5, k6, k7⟩ := hat
            exact ⟨cc, t, fr, len, k0, k1, k2, k3, k4, k5, (fun hc => by cases hc), fun i hi => ⟨(k7 i hi).1, fun j y hy => let ⟨z, hz, ho, hr⟩ := (k7 i hi).2 j y hy; ⟨z, hz, ho, hr.mono hFr (fun _ _ _ => rfl)⟩⟩⟩
        · unfold BlkOK; rw [hB, if_neg hd]; trivial
      · exact .inr ⟨hlv d hd, rfl⟩
      · by_cases he : d = ioId
        · exfalso
          subst he
          rw [live_iff, hBio] at hnl
          cases x <;> exact hnl trivial
        · rw [hB, if_neg he] at hd; exact absurd rfl hd
    refine calls_of_wp hf hb (wp_mono (code_sound hG hT hm c _ hR h) ?_)
    rintro e a' w' ⟨β', σ', hR', hq⟩
    have key : retOK std T fn.results.toList r (some y) σ' → a'.defers = [] ∧ ∃ v, (results fn a'.tmps).run P w' = .ok v w' ∧ Post w.heap.size w F (fun b => b = loc.1) r loc (some y) (.returned v) w' := fun hq =>
      ret_sound (cx := cx) hT hR' rfl (fun y' e => by
        obtain rfl := Option.some.inj e
        have hk := hR'.kp _ _ rfl
        have hs := hsame _ _ rfl rfl
        cases x with
        | box cs => cases y with
          | box cs' => exact hk
          | arr => exact hs.elim
        | arr sz n f => cases y with
          | box cs' => exact hs.elim
          | arr sz' n' f' => obtain ⟨rfl, rfl⟩ := hs; exact hk) hnt hq
    cases e with
    | normal => exact key hq
    | ret => exact key hq
    | _ => exact hq.elim
end AB
end
