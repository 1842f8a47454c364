/- Part 4 of the proof: an abstract machine over the translated code, the functions' contracts, and the plain law. -/
import Derived.Lib.FrozenHead
import Derived.Test.YtpodjaolnceggaaDoorM3
set_option linter.unusedSimpArgs false
set_option linter.unusedVariables false
set_option linter.unusedSectionVars false
section
namespace AB
open Go

/-- The operation does what the abstract one does. -/
def Snd (P : Program) (o : Oper) (cx : Cx) (σ : St) (a : Act) (w : World) (v : AV) (upd : List (Nat × Blk)) : Prop :=
  ∃ u w' β', Runs P o a w u w' ∧ Rel cx β' ((σ.put o.dst v).upd upd) (a.put o.dst u) w'

section
variable {cx : Cx} {β : Nat → Nat × Nat} {σ : St} {a : Act} {w : World}
theorem Snd.pure (h : Rel cx β σ a w) {o : Oper} {v : AV} {u : Value} (hr : (execOp a.eval o).run cx.P w = .ok (.value u) w) (hv : Rep w (Fr cx w β σ.B) β σ.B v u) : Snd cx.P o cx σ a w v [] :=
  ⟨u, w, β, .inl hr, h.pure hv⟩

theorem add_off (b o j : Nat) : (⟨b, o, none⟩ : Addr).add j = ⟨b, o + j, none⟩ := by unfold Addr.add; split <;> simp_all

theorem run_isAgg {P : Program} {t : TypeId} {u : TypeDesc} (hu : P.underlying t = some u) (w : World) : (isAgg t).run P w = .ok (isAggD u) w := by
  unfold isAgg
  rw [Sem.run_bind, run_underlying hu w]
  cases u <;> rfl
theorem run_sizeOf {P : Program} {t : TypeId} {i : TypeInfo} (hi : P.info? t = some i) (w : World) : (Go.sizeOf t).run P w = .ok i.size w := by
  simp [Go.sizeOf, typeInfo, hi]

/-- where an address leads -/
theorem loc_sound (h : Rel cx β σ a w) {A : AV} {u : Value} (hA : Rep w (Fr cx w β σ.B) β σ.B A u) {cs : List AV} {o : Nat} {pre : Prop} {rd : List Nat} (hs : locF std σ.B A = .at cs o pre rd) (hp : pre) :
    ∃ blk off, u = .pointer (some ⟨blk, off + o, none⟩) ∧ ∀ (j : Nat) (x : AV), cs[j]? = some x → ∃ y, w.cell? ⟨blk, off + j, none⟩ = some y ∧ Rep w (Fr cx w β σ.B) β σ.B x y := by
  unfold locF at hs
  split at hs
  · rename_i cs' o'
    simp only [Loc.at.injEq] at hs
    obtain ⟨rfl, rfl, -, -⟩ := hs
    cases hA.fp_inv with
    | fp cs o blk off us hF hc hr => exact ⟨blk, off, rfl, fun j x hx => ⟨us j, hc j x hx, .cl (hr j x hx)⟩⟩
  · rename_i d g o'
    split at hs
    · rename_i fz g' cs' hb
      split at hs
      · rename_i hg
        obtain rfl := eqN_eq hg
        simp only [Loc.at.injEq] at hs
        obtain ⟨rfl, rfl, -, -⟩ := hs
        have hbk := h.blk d
        unfold BlkOK at hbk
        rw [hb] at hbk
        obtain ⟨c, t, fr, h1, h2, h3, h4⟩ := hbk
        refine ⟨(β d).1, 0, by rw [Nat.zero_add]; exact hA.pb_inv.2 _ _ hb, fun j x hx => ?_⟩
        obtain ⟨y, hy, hr⟩ := h4 j x hx
        exact ⟨y, by rw [Nat.zero_add, cell_of_row w _ j c t fr h1]; exact hy, hr⟩
      · cases hs
    · cases hs
  · rename_i d g n i o'
    split at hs
    · rename_i fz fx g' sz n' f hb
      split at hs
      · rename_i hg
        obtain rfl := eqN_eq hg
        simp only [Loc.at.injEq] at hs
        obtain ⟨rfl, rfl, rfl, -⟩ := hs
        obtain ⟨rfl, hi0, hin⟩ := hp
        have hbk := h.blk d
        unfold BlkOK at hbk
        rw [hb] at hbk
        obtain ⟨c, t, fr, len, hn, h1, h2, h3, h3', h4, h5, h6⟩ := hbk
        refine ⟨(β d).1, i.toNat * sz, hA.pe_inv.2.2 _ _ _ _ hb hi0 hin, fun j x hx => ?_⟩
        have hi : i = ((i.toNat : Nat) : Int) := by omega
        rw [hi] at hx
        obtain ⟨y, hy, -, hr⟩ := (h6 i.toNat (by omega)).2 j x hx
        exact ⟨y, by rw [cell_of_row w _ _ c t fr h1]; exact hy, .cl hr⟩
      · cases hs
    · cases hs
  · cases hs

theorem load_sound {T : Nat → Option TI} (hT : TOK cx.P T) (h : Rel cx β σ a w) {o : Oper} {t : TypeId} {x : Operand} (ho : o.op = .load t x) {pre : Prop} {v : AV} {upd : List (Nat × Blk)} {rd : List Nat}
    (hs : loadF std T σ.B t (σ.ev x) = .ok pre v upd rd) (hp : pre) : Snd cx.P o cx σ a w v upd := by
  unfold loadF at hs
  split at hs
  · rename_i ti cs off pre' rd' hti hloc
    obtain ⟨i, z, hi, hz, hsz, hby, hzc, hd, u, hu, hag⟩ := tok_info hT hti
    split at hs
    · rename_i hagg
      split at hs
      · rename_i hlen
        simp only [SR.ok.injEq] at hs
        obtain ⟨rfl, rfl, rfl, rfl⟩ := hs
        obtain ⟨blk, bo, hptr, hcell⟩ := loc_sound h (h.ev x) hloc hp
        have hlen := eqN_eq hlen
        rw [lenL_eq, takeL_eq, dropL_eq] at hlen
        have hex : ∀ j, ∃ y, j < ti.size → w.cell? ⟨blk, bo + off + j, none⟩ = some y ∧ ∀ x, ((cs.drop off).take ti.size)[j]? = some x → Rep w (Fr cx w β σ.B) β σ.B x y := by
          intro j
          by_cases hj : j < ti.size
          · have hjj : off + j < cs.length := by
              simp only [List.length_take, List.length_drop] at hlen; omega
            obtain ⟨y, hy, hr⟩ := hcell (off + j) _ (List.getElem?_eq_getElem hjj)
            refine ⟨y, fun _ => ⟨by rw [Nat.add_assoc]; exact hy, fun x hx => ?_⟩⟩
            rw [List.getElem?_take, if_pos hj, List.getElem?_drop, List.getElem?_eq_getElem hjj] at hx
            simp only [Option.some.injEq] at hx
            exact hx ▸ hr
          · exact ⟨undef, fun hc => absurd hc hj⟩
        let us : Nat → Value := fun j => (hex j).choose
        have hus := fun j => (hex j).choose_spec
        have hrun : (loadCells ⟨blk, bo + off, none⟩ ti.size).run cx.P w = .ok ((List.range ti.size).map us).toArray w :=
          run_loadCells w _ _ us (fun j hj => by rw [add_off]; exact (hus j hj).1)
        refine Snd.pure h (u := .agg ((List.range ti.size).map us).toArray) ?_ ?_
        · unfold execOp
          simp only [ho, hptr, Instr.loadAt, Instr.sureAddr, loadVar, Sem.run_bind, Sem.run_pure, Result.andThen_ok, run_isAgg hu, run_sizeOf hi, hag, hagg, hsz, if_true, hrun]
        · refine .agg _ _ us (by simp [takeL_eq, dropL_eq, hlen]) (fun j x hx => ?_) (fun j x hx => ?_)
          · rw [takeL_eq, dropL_eq] at hx
            have hj : j < ti.size := by
              rcases Nat.lt_or_ge j ti.size with hj | hj
              · exact hj
              · rw [List.getElem?_eq_none (by rw [hlen]; exact hj)] at hx; cases hx
            simp [hj]
          · rw [takeL_eq, dropL_eq] at hx
            have hj : j < ti.size := by
              rcases Nat.lt_or_ge j ti.size with hj | hj
              · exact hj
              · rw [List.getElem?_eq_none (by rw [hlen]; exact hj)] at hx; cases hx
            exact (hus j hj).2 x hx
      · cases hs
    · rename_i hagg
      split at hs
      · rename_i v' hv'
        simp only [SR.ok.injEq] at hs
        obtain ⟨rfl, rfl, rfl, rfl⟩ := hs
        obtain ⟨blk, bo, hptr, hcell⟩ := loc_sound h (h.ev x) hloc hp
        rw [getL_eq] at hv'
        obtain ⟨y, hy, hr⟩ := hcell off _ hv'
        refine Snd.pure h (u := y) ?_ hr
        unfold execOp
        simp only [ho, hptr, Instr.loadAt, Instr.sureAddr, loadVar, Sem.run_bind, Sem.run_pure, Result.andThen_ok, run_isAgg hu, hag, hagg, Bool.false_eq_true, if_false, run_load, hy]
      · cases hs
  · cases hs

theorem fieldPlace_run {P : Program} {a : Addr} {f : Field} {i : TypeInfo} (hi : P.info? f.type = some i) (h0 : i.size ≠ 0) (w : World) : (fieldPlace a f).run P w = .ok (a.add f.offset) w := by
  simp [fieldPlace, run_sizeOf hi, h0]

theorem fieldOff_ok {P : Program} {T : Nat → Option TI} (hT : TOK P T) {t fld off : Nat} {fi : TI} (h : fieldOff T t fld = some (off, fi)) :
    ∃ fs f i, P.underlying t = some (.struct fs) ∧ fs[fld]? = some f ∧ f.offset = off ∧ P.info? f.type = some i ∧ i.size = fi.size ∧ T f.type = some fi := by
  unfold fieldOff at h
  split at h
  · rename_i ti hti
    split at h
    · rename_i fs' hdesc
      split at h
      · rename_i off' ty hf
        split at h
        · rename_i fi' hfi
          simp only [Option.some.injEq, Prod.mk.injEq] at h
          obtain ⟨rfl, rfl⟩ := h
          obtain ⟨i, z, hi, hz, hsz, hby, hzc, hd, u, hu, hag⟩ := tok_info hT hti
          obtain ⟨fs, hfs, hmap⟩ := td_st (hd.trans hdesc)
          rw [getL_eq, ← hmap, List.getElem?_map] at hf
          cases hff : fs.toList[fld]? with
          | none => rw [hff] at hf; cases hf
          | some f =>
            rw [hff] at hf
            simp only [Option.map_some, Option.some.injEq, Prod.mk.injEq] at hf
            obtain ⟨rfl, rfl⟩ := hf
            obtain ⟨i2, z2, hi2, hz2, hsz2, _⟩ := tok_info hT hfi
            exact ⟨fs, f, i2, hfs, by simpa using hff, rfl, hi2, hsz2, hfi⟩
        · cases h
      · cases h
    · cases h
  · cases h

theorem RepC.fp_shift {F : Nat → Prop} {cs : List AV} {o : Nat} {u : Value} (h : RepC w F (.fp cs o) u) (k : Nat) : ∃ blk off, u = .pointer (some ⟨blk, off + o, none⟩) ∧ RepC w F (.fp cs (Nat.add o k)) (.pointer (some ⟨blk, off + o + k, none⟩)) := by
  cases h with
  | fp cs o blk off us hF hc hr => exact ⟨blk, off, rfl, by rw [Nat.add_assoc]; exact .fp cs _ blk off us hF hc hr⟩

theorem shift_sound (h : Rel cx β σ a w) {A : AV} {u : Value} (hA : Rep w (Fr cx w β σ.B) β σ.B A u) {cs : List AV} {o : Nat} {pre : Prop} {rd : List Nat} (hs : locF std σ.B A = .at cs o pre rd) (hp : pre) (k : Nat) :
    ∃ ad : Addr, u = .pointer (some ad) ∧ Rep w (Fr cx w β σ.B) β σ.B (shiftA k A) (.pointer (some (ad.add k))) := by
  obtain ⟨blk, off, hu, -⟩ := loc_sound h hA hs hp
  refine ⟨_, hu, ?_⟩
  rw [add_off]
  subst hu
  unfold locF at hs
  split at hs
  · obtain ⟨b2, o2, he, hr⟩ := hA.fp_inv.fp_shift k
    simp only [Value.pointer.injEq, Option.some.injEq, Addr.mk.injEq, and_true] at he
    rw [he.1, he.2]
    exact .cl hr
  · rename_i d g o'
    obtain ⟨h1, h3⟩ := hA.pb_inv
    refine .pb d g _ _ rfl h1 (fun fz cs hb => ?_)
    have := h3 fz cs hb
    simp only [Value.pointer.injEq, Option.some.injEq, Addr.mk.injEq, and_true] at this
    rw [this.1, this.2]; rfl
  · rename_i d g n i o'
    obtain ⟨h1, h2, h3⟩ := hA.pe_inv
    refine .pe d g n i _ _ rfl h1 h2 (fun fz fx sz f hb hi0 hin => ?_)
    have := h3 fz fx sz f hb hi0 hin
    simp only [Value.pointer.injEq, Option.some.injEq, Addr.mk.injEq, and_true] at this
    rw [this.1, this.2, Nat.add_assoc]; rfl
  · cases hs

theorem fieldAddr_sound {T : Nat → Option TI} (hT : TOK cx.P T) (h : Rel cx β σ a w) {o : Oper} {t fld : Nat} {x : Operand} (ho : o.op = .fieldAddr t x fld) {pre : Prop} {v : AV} {upd : List (Nat × Blk)} {rd : List Nat}
    (hs : fieldAddrF std T σ.B t fld (σ.ev x) = .ok pre v upd rd) (hp : pre) : Snd cx.P o cx σ a w v upd := by
  unfold fieldAddrF at hs
  split at hs
  · rename_i off fi hf
    obtain ⟨fs, f, i, hu, hff, hoff, hi, hsz, -⟩ := fieldOff_ok hT hf
    split at hs
    · cases hs
    · rename_i m hm
      split at hs
      · rename_i cs o' pre' rd' hloc
        simp only [SR.ok.injEq] at hs
        obtain ⟨rfl, rfl, rfl, rfl⟩ := hs
        obtain ⟨ad, had, hr⟩ := shift_sound h (h.ev x) hloc hp off
        refine Snd.pure h (u := .pointer (some (ad.add off))) ?_ hr
        unfold execOp
        simp only [ho, had, Instr.fieldAt, Instr.sureAddr, Sem.run_bind, Sem.run_pure, Result.andThen_ok, run_underlying hu, hff, fieldPlace_run hi (by rw [hsz, hm]; exact Nat.succ_ne_zero m), hoff]
      · cases hs
  · cases hs

theorem move_sound (h : Rel cx β σ a w) {o : Oper} {x : Operand} (ho : o.op = .move x ∨ o.op = .assign x) : Snd cx.P o cx σ a w (σ.ev x) [] :=
  Snd.pure h (u := a.eval x) (by unfold execOp; rcases ho with ho | ho <;> simp [ho]) (h.ev x)

theorem nilCheck_sound (h : Rel cx β σ a w) {o : Oper} {x : Operand} (ho : o.op = .nilCheck x) {y : AV} {cs : List AV} {o' : Nat} {pre : Prop} {rd : List Nat} (hy : σ.ev x = y)
    (hloc : locF std σ.B y = .at cs o' pre rd) (hp : pre) : Snd cx.P o cx σ a w y [] := by
  have hx := h.ev x
  rw [hy] at hx
  obtain ⟨blk, off, hu, -⟩ := loc_sound h hx hloc hp
  refine Snd.pure h (u := a.eval x) ?_ hx
  unfold execOp
  simp [ho, hu]

theorem nilCheck_clo (h : Rel cx β σ a w) {o : Oper} {x : Operand} (ho : o.op = .nilCheck x) {f : Nat} {cs : List AV} (hy : σ.ev x = .clo f cs) : Snd cx.P o cx σ a w (.clo f cs) [] := by
  have hx := h.ev x
  rw [hy] at hx
  obtain ⟨vs, us, hu, -⟩ := hx.clo_inv
  refine Snd.pure h (u := a.eval x) ?_ hx
  unfold execOp
  simp [ho, hu]

theorem un_sound (h : Rel cx β σ a w) {o : Oper} {op : UnOp} {t : Nat} {x : Operand} (ho : o.op = .unOp op t x) :
    (∀ b, op = .not → σ.ev x = .val (.bool b) → Snd cx.P o cx σ a w (.val (.bool (!b))) []) ∧ (∀ k n, op = .neg → σ.ev x = .val (.int k n) → Snd cx.P o cx σ a w (.val (.int k (std.neg k n))) []) := by
  constructor
  · rintro b rfl hx
    have := h.ev x
    rw [hx] at this
    refine Snd.pure h (u := .bool (!b)) ?_ (.cl (.val _))
    unfold execOp
    simp [ho, this.val_inv, Op.unary]
  · rintro k n rfl hx
    have := h.ev x
    rw [hx] at this
    refine Snd.pure h (u := .int k (std.neg k n)) ?_ (.cl (.val _))
    unfold execOp
    simp [ho, this.val_inv, Op.unary, Op.intArith, std]

theorem bin_snd {T : Nat → Option TI} (hT : TOK cx.P T) (h : Rel cx β σ a w) {o : Oper} {op : BinOp} {t u : TypeId} {x y : Operand} (ho : o.op = .binOp op t x y u) {pre : Prop} {v : AV} {upd : List (Nat × Blk)} {rd : List Nat}
    (hs : binF std T t op (σ.ev x) (σ.ev y) = .ok pre v upd rd) (hp : pre) : Snd cx.P o cx σ a w v upd := by
  obtain ⟨rfl, c, rfl, hr⟩ := bin_sound hT (a := a) (w := w) ho hs hp (fun c hc => (hc ▸ h.ev x).val_inv) (fun c hc => (hc ▸ h.ev y).val_inv)
  exact Snd.pure h hr (.cl (.val _))

theorem extract_sound (h : Rel cx β σ a w) {o : Oper} {x : Operand} {i : Nat} (ho : o.op = .extract x i) {vs : List AV} {v : AV} (hx : σ.ev x = .tup vs) (hv : getL i vs = some v) : Snd cx.P o cx σ a w v [] := by
  have := h.ev x
  rw [hx] at this
  obtain ⟨us', us, hu, hl, hc, hr⟩ := this.tup_inv
  rw [getL_eq] at hv
  refine Snd.pure h (u := us i) ?_ (hr i v hv)
  unfold execOp
  simp [ho, hu, Instr.extract, hc i v hv]

theorem makeFunc_sound (h : Rel cx β σ a w) {o : Oper} {f : Nat} {first cap : Array Operand} (ho : o.op = .makeFunc (.func f) first cap) (hf : first.toList = []) :
    Snd cx.P o cx σ a w (.clo f (mapL σ.ev cap.toList)) [] := by
  have hf' : first = #[] := by simpa using hf
  refine Snd.pure h (u := .func (.func f) #[] (cap.map a.eval)) ?_ ?_
  · unfold execOp
    simp [ho, hf', Instr.makeFunc]
  · rw [mapL_eq]
    refine .clo f _ _ (fun j => (cap[j]?.map a.eval).getD undef) (by simp) (fun j x hx => ?_) (fun j x hx => ?_)
    · simp only [List.getElem?_map, Array.getElem?_toList, Option.map_eq_some_iff] at hx
      obtain ⟨y, hy, -⟩ := hx
      simp [hy]
    · simp only [List.getElem?_map, Array.getElem?_toList, Option.map_eq_some_iff] at hx
      obtain ⟨y, hy, rfl⟩ := hx
      simpa [hy] using h.ev y

end
end AB
end
section
namespace AB
open Go

section
variable {cx : Cx} {β : Nat → Nat × Nat} {σ : St} {a : Act} {w : World}

theorem pick_sound (h : Rel cx β σ a w) {o : Oper} {c x y : Operand} (ho : o.op = .pick c x y) {b : Bool} (hc : σ.ev c = .val (.bool b)) : Snd cx.P o cx σ a w (if b then σ.ev x else σ.ev y) [] := by
  have hcv := h.ev c
  rw [hc] at hcv
  have := hcv.val_inv
  cases b
  · refine Snd.pure h (u := a.eval y) ?_ (h.ev y)
    unfold execOp
    simp [ho, this, asBool]
  · refine Snd.pure h (u := a.eval x) ?_ (h.ev x)
    unfold execOp
    simp [ho, this, asBool]

/-- a part of a struct's value -/
theorem part_sound {T : Nat → Option TI} (hT : TOK cx.P T) {F : AV → Value → Prop} (hagg : ∀ (cs : List AV) (vs : Array Value) (us : Nat → Value), vs.size = cs.length → (∀ j x, cs[j]? = some x → vs[j]? = some (us j)) → (∀ j x, cs[j]? = some x → F x (us j)) → F (.agg cs) (.agg vs))
    {t : Nat} {ti : TI} (hti : T t = some ti) {cs : List AV} {off : Nat} {pre : Prop} {v : AV} {upd : List (Nat × Blk)} {rd : List Nat} (hs : partF ti cs off = .ok pre v upd rd)
    {vs : Array Value} {us : Nat → Value} (hl : vs.size = cs.length) (hc : ∀ j x, cs[j]? = some x → vs[j]? = some (us j)) (hr : ∀ j x, cs[j]? = some x → F x (us j)) :
    upd = [] ∧ ∃ u, (part t vs off).run cx.P w = .ok u w ∧ F v u := by
  obtain ⟨i, z, hi, hz, hsz, hby, hzc, hd, ud, hu, hag⟩ := tok_info hT hti
  unfold partF at hs
  split at hs
  · rename_i hagg'
    split at hs
    · rename_i hlen
      simp only [SR.ok.injEq] at hs
      obtain ⟨-, rfl, rfl, -⟩ := hs
      have hlen := eqN_eq hlen
      rw [lenL_eq, takeL_eq, dropL_eq] at hlen
      refine ⟨rfl, .agg (vs.extract off (off + ti.size)), ?_, ?_⟩
      · simp [part, run_isAgg hu, hag, hagg', run_sizeOf hi, hsz]
      · simp only [takeL_eq, dropL_eq]
        refine hagg _ _ (fun j => us (off + j)) ?_ (fun j x hx => ?_) (fun j x hx => ?_)
        · simp only [Array.size_extract, hlen, hl]
          simp only [List.length_take, List.length_drop] at hlen
          omega
        · have hj : j < ti.size := by
            rcases Nat.lt_or_ge j ti.size with hj | hj
            · exact hj
            · rw [List.getElem?_eq_none (by rw [hlen]; exact hj)] at hx; cases hx
          rw [List.getElem?_take, if_pos hj, List.getElem?_drop] at hx
          have h1 := hc _ x hx
          have h2 : off + j < vs.size := (Array.getElem?_eq_some_iff.1 h1).1
          rw [Array.getElem?_extract, if_pos (by omega), h1]
        · have hj : j < ti.size := by
            rcases Nat.lt_or_ge j ti.size with hj | hj
            · exact hj
            · rw [List.getElem?_eq_none (by rw [hlen]; exact hj)] at hx; cases hx
          rw [List.getElem?_take, if_pos hj, List.getElem?_drop] at hx
          exact hr _ x hx
    · cases hs
  · rename_i hagg'
    split at hs
    · rename_i v' hv'
      simp only [SR.ok.injEq] at hs
      obtain ⟨-, rfl, rfl, -⟩ := hs
      rw [getL_eq] at hv'
      refine ⟨rfl, us off, ?_, hr off _ hv'⟩
      simp [part, run_isAgg hu, hag, hagg', hc off _ hv']
    · cases hs

theorem field_sound {T : Nat → Option TI} (hT : TOK cx.P T) (h : Rel cx β σ a w) {o : Oper} {t fld : Nat} {x : Operand} (ho : o.op = .field t x fld) {pre : Prop} {v : AV} {upd : List (Nat × Blk)} {rd : List Nat}
    (hs : fieldF T t fld (σ.ev x) = .ok pre v upd rd) : Snd cx.P o cx σ a w v upd := by
  unfold fieldF at hs
  split at hs
  · rename_i off fi cs hf hx
    obtain ⟨fs, f, i, hu, hff, hoff, hi, hsz, hti⟩ := fieldOff_ok hT hf
    have hev := h.ev x
    rw [hx] at hev
    obtain ⟨vs, us, he, hl, hc, hr⟩ := hev.agg_inv
    obtain ⟨rfl, u, hrun, hrep⟩ := part_sound (w := w) hT (F := Rep w (Fr cx w β σ.B) β σ.B) (fun cs vs us h1 h2 h3 => .agg cs vs us h1 h2 h3) hti hs hl hc hr
    refine Snd.pure h (u := u) ?_ hrep
    unfold execOp
    simp [ho, he, Instr.field, run_underlying hu, hff, asAgg, hoff, hrun]
  · cases hs

theorem index_sound {T : Nat → Option TI} (hT : TOK cx.P T) (h : Rel cx β σ a w) {o : Oper} {t : Nat} {x i : Operand} (ho : o.op = .index t x i) {pre : Prop} {v : AV} {upd : List (Nat × Blk)} {rd : List Nat}
    (hs : indexF std T t (σ.ev x) (σ.ev i) = .ok pre v upd rd) (hp : pre) : Snd cx.P o cx σ a w v upd := by
  unfold indexF at hs
  split at hs
  · cases hs
  · rename_i ti hti
    obtain ⟨inf, z, hi, hz, hsz, hby, hzc, hd, ud, hu, hag⟩ := tok_info hT hti
    split at hs
    · rename_i s k j hdesc hx hix
      simp only [SR.ok.injEq] at hs
      obtain ⟨rfl, rfl, rfl, -⟩ := hs
      obtain ⟨h0, h1⟩ := hp
      simp only [std] at h1
      have hxv := (hx ▸ h.ev x).val_inv
      have hiv := (hix ▸ h.ev i).val_inv
      have hlt : j.toNat < s.size := by omega
      refine Snd.pure h (u := .int .u8 (std.sat s j)) ?_ (.cl (.val _))
      unfold execOp
      have hg : s[j.toNat]? = some s.data[j.toNat] := getElem?_pos s j.toNat hlt
      simp [ho, hxv, hiv, Instr.index, asIntOf, run_underlying (td_str (hd.trans hdesc)), h0, hg, std]
      rw [Array.getElem?_eq_getElem (by exact hlt)]
      rfl
    · rename_i n e cs k m hdesc hx hix
      split at hs
      · rename_i ei hlt hei
        have hlt : m < n := leN_le hlt
        have hev := h.ev x
        rw [hx] at hev
        have hiv := (hix ▸ h.ev i).val_inv
        obtain ⟨vs, us, he, hl, hc, hr⟩ := hev.agg_inv
        obtain ⟨rfl, u, hrun, hrep⟩ := part_sound (w := w) hT (F := Rep w (Fr cx w β σ.B) β σ.B) (fun cs vs us h1 h2 h3 => .agg cs vs us h1 h2 h3) hei hs hl hc hr
        obtain ⟨ie, ze, hie, _, hse, _⟩ := tok_info hT hei
        refine Snd.pure h (u := u) ?_ hrep
        unfold execOp
        have h1 : (0 : Int) ≤ (m : Int) := Int.natCast_nonneg m
        have h2 : (m : Int) < (n : Int) := by omega
        have hrun' : (part e vs (m * ie.size)).run cx.P w = .ok u w := by rw [hse]; exact hrun
        simp only [ho, he, hiv, Instr.index, asIntOf, run_underlying (td_arr (hd.trans hdesc)), Sem.run_bind, Sem.run_pure, Result.andThen_ok, h1, h2, and_self, if_true, run_sizeOf hie, Int.ofNat_eq_natCast, Int.toNat_natCast, hrun']
      · cases hs
    · cases hs

theorem RepC.lst_at {F : Nat → Prop} {n : Int} {f : Int → List AV} {u : Value} (h : RepC w F (.lst n f) u) {i : Int} (h0 : 0 ≤ i) (h1 : i < n) :
    ∃ ad : Addr, ∃ len c : Nat, u = .slice (some ad) len c ∧ n = len ∧ ∀ sz, (f i).length = sz → RepC w F (.fp (f i) 0) (.pointer (some (ad.add (i.toNat * sz)))) := by
  cases h with
  | lstE f A c => omega
  | lst len n f blk off c sz us hn hF hlc hl hc _ hr =>
    refine ⟨_, len, c, rfl, hn, fun sz' hsz => ?_⟩
    have hi : i = ((i.toNat : Nat) : Int) := by omega
    have hlt : i.toNat < len := by omega
    have hsz' : sz' = sz := by rw [← hsz, hi]; exact hl _ hlt
    subst hsz'
    rw [add_off]
    have := RepC.fp (w := w) (F := F) (f i) 0 blk (off + i.toNat * sz') (us i.toNat) hF (fun j x hx => hc _ hlt j x (by rw [← hi]; exact hx)) (fun j x hx => hr _ hlt j x (by rw [← hi]; exact hx))
    exact this

theorem indexAddr_sound {T : Nat → Option TI} (hT : TOK cx.P T) (h : Rel cx β σ a w) {o : Oper} {t : Nat} {x i : Operand} (ho : o.op = .indexAddr t x i) {pre : Prop} {v : AV} {upd : List (Nat × Blk)} {rd : List Nat}
    (hs : indexAddrF std T σ.B t (σ.ev x) (σ.ev i) = .ok pre v upd rd) (hp : pre) : Snd cx.P o cx σ a w v upd := by
  unfold indexAddrF at hs
  split at hs
  · cases hs
  · rename_i ti hti
    obtain ⟨inf, z, hi, hz, hsz, hby, hzc, hd, ud, hu, hag⟩ := tok_info hT hti
    split at hs
    · rename_i e hdesc
      have hue := td_sl (hd.trans hdesc)
      split at hs
      · cases hs
      · rename_i ei hei
        obtain ⟨ie, ze, hie, _, hse, _⟩ := tok_info hT hei
        split at hs
        · rename_i k j hix
          have hiv := (hix ▸ h.ev i).val_inv
          split at hs
          · rename_i n f hx
            simp only [SR.ok.injEq] at hs
            obtain ⟨rfl, rfl, rfl, -⟩ := hs
            obtain ⟨⟨h0, h1⟩, hsize⟩ := hp
            rw [lenL_eq] at hsize
            have hev := h.ev x
            rw [hx] at hev
            obtain ⟨ad, len, c, he, hn, hfp⟩ := hev.lst_inv.lst_at h0 h1
            refine Snd.pure h (u := .pointer (some (ad.add (j.toNat * ei.size)))) ?_ (.cl (hfp _ hsize))
            unfold execOp
            have h1' : j < (len : Int) := by omega
            simp [ho, he, hiv, Instr.indexAt, asIntOf, run_underlying hue, h0, h1', run_sizeOf hie, hse]
          · rename_i d g n hx
            split at hs
            · rename_i fz fx g' sz n' f hb
              split at hs
              · rename_i hg hsz'
                obtain rfl := eqN_eq hg
                have hsz' := eqN_eq hsz'
                simp only [SR.ok.injEq] at hs
                obtain ⟨rfl, rfl, rfl, -⟩ := hs
                obtain ⟨rfl, h0, h1⟩ := hp
                obtain ⟨len, rfl⟩ : ∃ len : Nat, n = len := ⟨n.toNat, by omega⟩
                have hev := h.ev x
                rw [hx] at hev
                have he := hev.sl_inv.2.2 _ _ _ _ hb
                rw [Int.toNat_natCast] at he
                have h1' : j < (len : Int) := h1
                refine Snd.pure h (u := .pointer (some ⟨(β d).1, j.toNat * sz + 0, none⟩)) ?_ ?_
                · unfold execOp
                  simp [ho, he, hiv, Instr.indexAt, asIntOf, run_underlying hue, h0, h1', run_sizeOf hie, hse, add_off, hsz']
                · refine .pe d g _ j 0 _ rfl hev.sl_inv.1 (fun fz2 fx2 sz2 n2 f2 hb2 => ?_) (fun fz2 fx2 sz2 f2 hb2 _ _ => ?_)
                  · exact hev.sl_inv.2.1 _ _ _ _ _ hb2
                  · rw [hb] at hb2
                    simp only [Blk.arr.injEq] at hb2
                    rw [hb2.2.2.2.1]
              · cases hs
            · cases hs
          · cases hs
        · cases hs
    · rename_i n e hdesc
      have hue := td_arr (hd.trans hdesc)
      split at hs
      · cases hs
      · rename_i ei hei
        obtain ⟨ie, ze, hie, _, hse, _⟩ := tok_info hT hei
        split at hs
        · rename_i k m hix
          have hiv := (hix ▸ h.ev i).val_inv
          split at hs
          · rename_i hlt
            have hlt : m < n := leN_le hlt
            split at hs
            · rename_i cs o' pre' rd' hloc
              simp only [SR.ok.injEq] at hs
              obtain ⟨rfl, rfl, rfl, -⟩ := hs
              obtain ⟨ad, had, hr⟩ := shift_sound h (h.ev x) hloc hp (Nat.mul m ei.size)
              refine Snd.pure h (u := .pointer (some (ad.add (Nat.mul m ei.size)))) ?_ hr
              unfold execOp
              have h1 : (0 : Int) ≤ Int.ofNat m := Int.natCast_nonneg m
              have h2 : (Int.ofNat m) < (n : Int) := by have : (Int.ofNat m) = (m : Int) := rfl; omega
              have h3 : (Int.ofNat m).toNat = m := rfl
              simp only [ho, had, hiv, Instr.indexAt, asIntOf, run_underlying hue, Sem.run_bind, Sem.run_pure, Result.andThen_ok, Instr.sureAddr, h1, h2, and_self, if_true, run_sizeOf hie, hse, h3]
              rfl
            · cases hs
          · cases hs
        · cases hs
    · cases hs

theorem len_sound {T : Nat → Option TI} (hT : TOK cx.P T) (h : Rel cx β σ a w) {o : Oper} {c : Call} {x : Operand} {t : Nat} (ho : o.op = .call c) (hcal : c.callee = .builtin .len) (hargs : c.args.toList = [x]) (hty : c.argTypes.toList = [t])
    {pre : Prop} {v : AV} {upd : List (Nat × Blk)} {rd : List Nat} (hs : lenF std T σ.B t (σ.ev x) = .ok pre v upd rd) (hp : pre) : Snd cx.P o cx σ a w v upd := by
  have ha : c.args = #[x] := by rw [← hargs]
  have ht : c.argTypes = #[t] := by rw [← hty]
  have fin : ∀ (u : Value), (Builtin.len_ #[t] o.type #[a.eval x]).run cx.P w = .ok u w → (execOp a.eval o).run cx.P w = .ok (.value u) w := by
    intro u hr
    unfold execOp
    simp [ho, resolve, hcal, ha, ht, invoke, builtin, hr]
  unfold lenF at hs
  split at hs
  · cases hs
  · rename_i ti hti
    obtain ⟨inf, z, hi, hz, hsz, hby, hzc, hd, ud, hu, hag⟩ := tok_info hT hti
    split at hs
    · rename_i hdesc
      split at hs
      · rename_i s hx
        simp only [SR.ok.injEq] at hs
        obtain ⟨rfl, rfl, rfl, -⟩ := hs
        have hxv := (hx ▸ h.ev x).val_inv
        refine Snd.pure h (u := .int .i64 s.size) (fin _ ?_) (.cl (.val _))
        simp [Builtin.len_, run_underlying (td_str (hd.trans hdesc)), hxv, goInt]
      · cases hs
    · rename_i e hdesc
      have hue := td_sl (hd.trans hdesc)
      split at hs
      · rename_i n f hx
        simp only [SR.ok.injEq] at hs
        obtain ⟨rfl, rfl, rfl, -⟩ := hs
        have hev := h.ev x
        rw [hx] at hev
        obtain ⟨A, len, cp, he, rfl, -⟩ := hev.lst_inv.lst_len
        refine Snd.pure h (u := .int .i64 len) (fin _ ?_) (.cl (.val _))
        simp [Builtin.len_, run_underlying hue, he, goInt]
      · rename_i d g n hx
        split at hs
        · rename_i fz fx g' sz n' f hb
          split at hs
          · rename_i hg
            obtain rfl := eqN_eq hg
            simp only [SR.ok.injEq] at hs
            obtain ⟨rfl, rfl, rfl, -⟩ := hs
            obtain rfl := hp
            have hev := h.ev x
            rw [hx] at hev
            have he := hev.sl_inv.2.2 _ _ _ _ hb
            have hbk := h.blk d
            unfold BlkOK at hbk
            rw [hb] at hbk
            obtain ⟨cc, tt, fr, len, rfl, -⟩ := hbk
            refine Snd.pure h (u := .int .i64 (len : Int)) (fin _ ?_) (.cl (.val _))
            simp [Builtin.len_, run_underlying hue, he, goInt]
          · cases hs
        · cases hs
      · rename_i hx
        simp only [SR.ok.injEq] at hs
        obtain ⟨rfl, rfl, rfl, -⟩ := hs
        have hxv := (hx ▸ h.ev x).val_inv
        refine Snd.pure h (u := .int .i64 0) (fin _ ?_) (.cl (.val _))
        simp [Builtin.len_, run_underlying hue, hxv, goInt]
      · cases hs
    · cases hs

theorem foldI_ok (f : Int → Int → Int) (k : IntKind) {pre : Prop} {v : AV} {upd : List (Nat × Blk)} {rd : List Nat} (g : Value → Value → Sem Value) (hg : ∀ j a b, (g (.int j a) b) = match b with | .int _ b => Pure.pure (.int j (f a b)) | b => g (.int j a) b) (P : Program) :
    ∀ (l : List AV) (vs : List Value) (a : Int), foldI f k a l = .ok pre v upd rd → vs.length = l.length → (∀ (j : Nat) (c : Value), l[j]? = some (AV.val c) → vs[j]? = some c) →
      upd = [] ∧ ∃ c, v = .val c ∧ (vs.foldlM g (.int k a)).run P w = .ok c w
  | [], vs, a, hs, hl, _ => by
    simp only [foldI, SR.ok.injEq] at hs
    obtain ⟨-, rfl, rfl, -⟩ := hs
    have : vs = [] := List.eq_nil_of_length_eq_zero hl
    subst this
    exact ⟨rfl, _, rfl, rfl⟩
  | x :: r, vs, a, hs, hl, hv => by
    cases vs with
    | nil => simp at hl
    | cons y ys =>
      unfold foldI at hs
      split at hs
      · simp at *
      · rename_i k2 b r' heq
        simp only [List.cons.injEq] at heq
        obtain ⟨rfl, rfl⟩ := heq
        have hy : y = .int k2 b := by have := hv 0 (.int k2 b) rfl; simpa using this
        subst hy
        obtain ⟨h1, c, h2, h3⟩ := foldI_ok f k g hg P r ys (f a b) hs (by simpa using hl) (fun j c hj => by have := hv (j + 1) c (by simpa using hj); simpa using this)
        refine ⟨h1, c, h2, ?_⟩
        rw [List.foldlM_cons, hg k a (.int k2 b)]
        simpa using h3
      · cases hs

end
end AB
end
section
namespace AB
open Go

theorem oneCell_val {v : Value} (h : (AV.val v).oneC = true) : v.oneCell' = true := by cases v <;> first | rfl | (simp [AV.oneC] at h)
theorem clC_oneC {a : AV} (h : a.clC = true) : a.oneC = true := by
  cases a <;> first | rfl | (simp [AV.clC] at h; done) | skip
  rename_i v; cases v <;> first | rfl | (simp [AV.clC] at h)
theorem RepC.oneCell {w : World} {F : Nat → Prop} {a : AV} {u : Value} (h : RepC w F a u) (hc : a.oneC = true) : u.oneCell' = true := by
  cases h with
  | any v => simp [AV.oneC] at hc
  | val v => exact oneCell_val hc
  | agg cs vs us _ _ _ => simp [AV.oneC] at hc
  | tup cs vs us _ _ _ => simp [AV.oneC] at hc
  | _ => rfl
theorem Rep.oneCell {w : World} {F : Nat → Prop} {β : Nat → Nat × Nat} {B : Nat → Blk} {a : AV} {u : Value} (h : Rep w F β B a u) (hc : a.oneC = true) : u.oneCell' = true := by
  cases h with
  | cl h => exact h.oneCell hc
  | sl d g n v h0 _ _ _ => exact h0
  | pb d g o v h0 _ _ => exact h0
  | pe d g n i o v h0 _ _ _ => exact h0
  | agg cs vs us _ _ _ => simp [AV.oneC] at hc
  | tup cs vs us _ _ _ => simp [AV.oneC] at hc
  | clo f cs vs us _ _ _ => rfl
theorem cells_one {v : Value} (h : v.oneCell' = true) : v.cells = #[v] := by cases v <;> first | rfl | (simp [Value.oneCell'] at h)

/-- The cells of a value. -/
theorem cells_sound {w : World} {F : Nat → Prop} {β : Nat → Nat × Nat} {B : Nat → Blk} {a : AV} {u : Value} (h : Rep w F β B a u) {cs : List AV} (hc : a.cells = some cs) :
    u.cells.size = cs.length ∧ ∀ (j : Nat) (x : AV), cs[j]? = some x → ∃ y, u.cells[j]? = some y ∧ Rep w F β B x y := by
  have one : a.oneC = true → cs = [a] → u.cells.size = cs.length ∧ ∀ (j : Nat) (x : AV), cs[j]? = some x → ∃ y, u.cells[j]? = some y ∧ Rep w F β B x y := by
    intro h1 h2
    subst h2
    rw [cells_one (h.oneCell h1)]
    refine ⟨rfl, fun j x hx => ?_⟩
    cases j with
    | zero => simp only [List.getElem?_cons_zero, Option.some.injEq] at hx; subst hx; exact ⟨u, rfl, h⟩
    | succ j => simp at hx
  cases a with
  | agg cs' =>
    simp only [AV.cells, Option.some.injEq] at hc
    subst hc
    obtain ⟨vs, us, rfl, hl, hcc, hr⟩ := h.agg_inv
    exact ⟨hl, fun j x hx => ⟨us j, hcc j x hx, hr j x hx⟩⟩
  | val v => cases v <;> simp only [AV.cells, Option.some.injEq, reduceCtorEq] at hc <;> exact one rfl hc.symm
  | any => simp [AV.cells] at hc
  | tup vs => simp [AV.cells] at hc
  | own cl sz n f => simp [AV.cells] at hc
  | _ => simp only [AV.cells, Option.some.injEq] at hc; exact one rfl hc.symm

theorem foldl_set (vs : List Value) (off : Nat) : ∀ (k : Nat) (cs : Array Value),
    ((vs.zipIdx k).foldl (fun (cs : Array Value) (x : Value × Nat) => cs.setIfInBounds (off + x.2) x.1) cs).size = cs.size ∧
    ∀ j, ((vs.zipIdx k).foldl (fun (cs : Array Value) (x : Value × Nat) => cs.setIfInBounds (off + x.2) x.1) cs)[j]? =
      if off + k ≤ j ∧ j < off + k + vs.length ∧ j < cs.size then vs[j - (off + k)]? else cs[j]? := by
  induction vs with
  | nil => intro k cs; refine ⟨rfl, fun j => ?_⟩; simp; omega
  | cons v r ih =>
    intro k cs
    obtain ⟨h1, h2⟩ := ih (k + 1) (cs.setIfInBounds (off + k) v)
    refine ⟨by simpa [List.zipIdx_cons] using h1, fun j => ?_⟩
    simp only [List.zipIdx_cons, List.foldl_cons]
    rw [h2 j]
    simp only [Array.size_setIfInBounds, List.length_cons]
    by_cases hj : j = off + k
    · subst hj
      rw [if_neg (by omega)]
      by_cases hlt : off + k < cs.size
      · rw [if_pos ⟨by omega, by omega, hlt⟩]
        simp [hlt]
      · rw [if_neg (by omega)]
        simp [hlt]
    · by_cases hin : off + (k + 1) ≤ j ∧ j < off + (k + 1) + r.length ∧ j < cs.size
      · rw [if_pos hin, if_pos ⟨by omega, by omega, hin.2.2⟩]
        have : j - (off + k) = (j - (off + (k + 1))) + 1 := by omega
        rw [this, List.getElem?_cons_succ]
      · rw [if_neg hin, Array.getElem?_setIfInBounds_ne (by omega)]
        rw [if_neg (by omega)]

theorem splice_get (cs vs : List AV) (o : Nat) (h : o + vs.length ≤ cs.length) (j : Nat) : (splice cs o vs)[j]? = if o ≤ j ∧ j < o + vs.length then vs[j - o]? else cs[j]? := by
  rw [splice_eq]
  have ho : (cs.take o).length = o := by rw [List.length_take]; omega
  by_cases h1 : j < o
  · rw [List.getElem?_append_left (by omega), List.getElem?_take, if_pos h1, if_neg (by omega)]
  · rw [List.getElem?_append_right (by omega), ho]
    by_cases h2 : j < o + vs.length
    · rw [List.getElem?_append_left (by omega), if_pos ⟨by omega, h2⟩]
    · rw [List.getElem?_append_right (by omega), List.getElem?_drop, if_neg (by omega)]
      congr 1; omega
theorem splice_len (cs vs : List AV) (o : Nat) (h : o + vs.length ≤ cs.length) : (splice cs o vs).length = cs.length := by
  rw [splice_eq]; simp; omega

/-- Values with parts. -/
theorem fill_sound {G : AV → Value → Prop} (place : Nat → Option (Nat × Nat)) : ∀ (parts : List (Nat × AV)) (pv : List (Nat × Value)) (cs cs' : List AV) (c : Array Value),
    fillF place cs parts = some cs' → c.size = cs.length → (∀ (j : Nat) (x : AV), cs[j]? = some x → ∃ y, c[j]? = some y ∧ G x y) →
    pv.length = parts.length → (∀ (k : Nat) (p : Nat × AV), parts[k]? = some p → ∃ v, pv[k]? = some (p.1, v) ∧ ∀ xs, p.2.cells = some xs → v.cells.size = xs.length ∧ ∀ (j : Nat) (x : AV), xs[j]? = some x → ∃ y, v.cells[j]? = some y ∧ G x y) →
    ∃ c', Instr.fill place c pv = some c' ∧ c'.size = cs'.length ∧ cs'.length = cs.length ∧ ∀ (j : Nat) (x : AV), cs'[j]? = some x → ∃ y, c'[j]? = some y ∧ G x y
  | [], pv, cs, cs', c, hs, hl, hc, hpl, _ => by
    simp only [fillF, Option.some.injEq] at hs
    subst hs
    have : pv = [] := List.eq_nil_of_length_eq_zero hpl
    subst this
    exact ⟨c, rfl, hl, rfl, hc⟩
  | (i, a) :: r, pv, cs, cs', c, hs, hl, hc, hpl, hp => by
    cases pv with
    | nil => simp at hpl
    | cons q qs =>
      obtain ⟨v, hv, hcell⟩ := hp 0 (i, a) rfl
      simp only [List.getElem?_cons_zero, Option.some.injEq] at hv
      subst hv
      unfold fillF at hs
      split at hs
      · rename_i off size xs hpl' hxs
        split at hs
        · rename_i hsz hfit
          have hsz := eqN_eq hsz
          have hfit := leN_le hfit
          rw [lenL_eq] at hsz hfit
          obtain ⟨h1, h2⟩ := hcell xs hxs
          have hfit' : off + xs.length ≤ cs.length := by rw [hsz]; exact hfit
          obtain ⟨g1, g2⟩ := foldl_set v.cells.toList off 0 c
          have hnew : ∀ (j : Nat) (x : AV), (splice cs off xs)[j]? = some x → ∃ y, ((v.cells.toList.zipIdx 0).foldl (fun (cs : Array Value) (x : Value × Nat) => cs.setIfInBounds (off + x.2) x.1) c)[j]? = some y ∧ G x y := by
            intro j x hx
            rw [splice_get _ _ _ hfit'] at hx
            rw [g2 j]
            simp only [Nat.add_zero, Array.length_toList, h1]
            split at hx
            · rename_i hin
              rw [if_pos ⟨hin.1, hin.2, by omega⟩]
              obtain ⟨y, hy, hg⟩ := h2 _ x hx
              exact ⟨y, by simpa using hy, hg⟩
            · rename_i hin
              rw [if_neg (by omega)]
              exact hc j x hx
          obtain ⟨c', r1, r2, r2', r3⟩ := fill_sound place r qs (splice cs off xs) cs' _ hs (by rw [g1, splice_len _ _ _ hfit']; exact hl) hnew (by simpa using hpl)
            (fun k p hk => by have := hp (k + 1) p (by simpa using hk); simpa using this)
          refine ⟨c', ?_, r2, by rw [r2', splice_len _ _ _ hfit'], r3⟩
          unfold Instr.fill
          simp only [hpl']
          have hfit2 : off + size ≤ cs.length := hfit
          rw [h1, hsz, if_neg (by simp only [ne_eq, not_true_eq_false, decide_false, Bool.false_or, decide_eq_true_eq]; omega)]
          rw [← Array.foldl_toList, Array.toList_zipIdx]
          exact r1
        · cases hs
      · cases hs

theorem mapP_get (ρ : Operand → AV) : ∀ (l : List (Nat × Operand)), mapP ρ l = l.map fun p => (p.1, ρ p.2)
  | [] => rfl
  | (i, x) :: r => by simp [mapP, mapP_get ρ r]

section
variable {cx : Cx} {β : Nat → Nat × Nat} {σ : St} {a : Act} {w : World}

theorem parts_ok (h : Rel cx β σ a w) (parts : Array (Nat × Operand)) :
    ((parts.map fun (i, x) => (i, a.eval x)).toList.length = (mapP σ.ev parts.toList).length) ∧ (∀ (k : Nat) (p : Nat × AV), (mapP σ.ev parts.toList)[k]? = some p →
      ∃ v, (parts.map fun (i, x) => (i, a.eval x)).toList[k]? = some (p.1, v) ∧ ∀ xs, p.2.cells = some xs → v.cells.size = xs.length ∧ ∀ (j : Nat) (x : AV), xs[j]? = some x → ∃ y, v.cells[j]? = some y ∧ Rep w (Fr cx w β σ.B) β σ.B x y) := by
  rw [mapP_get]
  refine ⟨by simp, fun k p hk => ?_⟩
  simp only [List.getElem?_map, Array.getElem?_toList, Option.map_eq_some_iff] at hk
  obtain ⟨⟨i, x⟩, hk, rfl⟩ := hk
  refine ⟨a.eval x, by simp [hk], fun xs hxs => cells_sound (h.ev x) hxs⟩

theorem zero_ok (l : List Value) (c : Array Value) (hc : c.toList = l) : c.size = (mapL AV.val l).length ∧ ∀ (j : Nat) (x : AV), (mapL AV.val l)[j]? = some x → ∃ y, c[j]? = some y ∧ Rep w (Fr cx w β σ.B) β σ.B x y := by
  subst hc
  rw [mapL_eq]
  refine ⟨by simp, fun j x hx => ?_⟩
  simp only [List.getElem?_map, Array.getElem?_toList, Option.map_eq_some_iff] at hx
  obtain ⟨y, hy, rfl⟩ := hx
  exact ⟨y, hy, .cl (.val y)⟩

theorem agg_of {c : Array Value} {cs : List AV} (hl : c.size = cs.length) (hc : ∀ (j : Nat) (x : AV), cs[j]? = some x → ∃ y, c[j]? = some y ∧ Rep w (Fr cx w β σ.B) β σ.B x y) : Rep w (Fr cx w β σ.B) β σ.B (.agg cs) (.agg c) := by
  refine .agg cs c (fun j => c.getD j undef) hl (fun j x hx => ?_) (fun j x hx => ?_)
  · obtain ⟨y, hy, _⟩ := hc j x hx; simp [hy]
  · obtain ⟨y, hy, hr⟩ := hc j x hx; simpa [hy] using hr

theorem places_ok {P : Program} {T : Nat → Option TI} (hT : TOK P T) : ∀ (fs : List Field) (pl : List (Nat × Nat)), fieldPlaces T (fs.map fun f => (f.offset, f.type)) = some pl → ∀ w : World,
    (fs.mapM fun (f : Field) => (do pure (f.offset, ← Go.sizeOf f.type) : Sem (Nat × Nat))).run P w = .ok pl w
  | [], pl, h, w => by simp [fieldPlaces] at h; subst h; rfl
  | f :: r, pl, h, w => by
    simp only [List.map_cons, fieldPlaces] at h
    split at h
    · rename_i ti l hti hl
      simp only [Option.some.injEq] at h
      subst h
      obtain ⟨i, z, hi, hz, hsz, _⟩ := tok_info hT hti
      have ih := places_ok hT r l hl w
      simp only [List.mapM_cons, Sem.run_bind, run_sizeOf hi, Result.andThen_ok, Sem.run_pure, ih, hsz]
    · cases h

theorem run_zero {P : Program} {t : TypeId} {i : TypeInfo} {z : Value} (hi : P.info? t = some i) (hz : i.zero = some z) (w : World) : (zeroValue t).run P w = .ok z w := by
  simp [zeroValue, typeInfo, hi, hz]

theorem build_sound {T : Nat → Option TI} (hT : TOK cx.P T) (h : Rel cx β σ a w) {o : Oper} {t : Nat} {parts : Array (Nat × Operand)} (ho : o.op = .build t parts) {pre : Prop} {v : AV} {upd : List (Nat × Blk)} {rd : List Nat}
    (hs : buildF T t (mapP σ.ev parts.toList) = .ok pre v upd rd) : Snd cx.P o cx σ a w v upd := by
  obtain ⟨hp1, hp2⟩ := parts_ok h parts
  unfold buildF at hs
  split at hs
  · cases hs
  · rename_i ti hti
    obtain ⟨inf, z, hi, hz, hsz, hby, hzc, hd, ud, hu, hag⟩ := tok_info hT hti
    obtain ⟨hz1, hz2⟩ := zero_ok (cx := cx) (β := β) (σ := σ) (w := w) ti.zero z.cells hzc
    split at hs
    · rename_i fs hdesc
      obtain ⟨fa, hfa, hmap⟩ := td_st (hd.trans hdesc)
      split at hs
      · cases hs
      · rename_i pl hpl
        split at hs
        · rename_i cs hcs
          simp only [SR.ok.injEq] at hs
          obtain ⟨-, rfl, rfl, -⟩ := hs
          obtain ⟨c', r1, r2, r2', r3⟩ := fill_sound _ _ _ _ _ _ hcs hz1 hz2 hp1 hp2
          refine Snd.pure h (u := .agg c') ?_ (agg_of r2 r3)
          have hpr := places_ok hT fa.toList pl (by rw [hmap]; exact hpl) w
          have hpr' : (fa.mapM fun (f : Field) => (do pure (f.offset, ← Go.sizeOf f.type) : Sem (Nat × Nat))).run cx.P w = .ok pl.toArray w := by
            rw [Array.mapM_eq_mapM_toList, Sem.run_map, hpr]; rfl
          have r1' : Instr.fill (fun x => pl.toArray[x]?) z.cells (parts.map fun (i, x) => (i, a.eval x)).toList = some c' := by
            rw [← r1]; congr 1; funext i; rw [getL_eq]; simp
          unfold execOp
          simp only [ho, Instr.build, Sem.run_bind, run_zero hi hz, Result.andThen_ok, run_underlying hfa, hpr', r1', Sem.run_pure]
        · cases hs
    · rename_i n e hdesc
      have hua := td_arr (hd.trans hdesc)
      split at hs
      · cases hs
      · rename_i ei hei
        obtain ⟨ie, ze, hie, hze, hse, _⟩ := tok_info hT hei
        split at hs
        · rename_i cs hcs
          simp only [SR.ok.injEq] at hs
          obtain ⟨-, rfl, rfl, -⟩ := hs
          obtain ⟨c', r1, r2, r2', r3⟩ := fill_sound _ _ _ _ _ _ hcs hz1 hz2 hp1 hp2
          refine Snd.pure h (u := .agg c') ?_ (agg_of r2 r3)
          have r1' : Instr.fill (fun i => some (i * ie.size, ie.size)) z.cells (parts.map fun (i, x) => (i, a.eval x)).toList = some c' := by
            rw [hse]; exact r1
          unfold execOp
          simp only [ho, Instr.build, Sem.run_bind, run_zero hi hz, Result.andThen_ok, run_underlying hua, run_sizeOf hie, r1', Sem.run_pure]
        · cases hs
    · cases hs

theorem alloc_sound {T : Nat → Option TI} (hT : TOK cx.P T) (h : Rel cx β σ a w) {o : Oper} {t : Nat} (ho : o.op = .alloc t) {ti : TI} (hti : T t = some ti) (d : Nat) :
    Snd cx.P o cx σ a w (.pb d (Nat.succ (σ.B d).gen) 0) [(d, .box false (Nat.succ (σ.B d).gen) (mapL AV.val ti.zero))] := by
  obtain ⟨inf, z, hi, hz, hsz, hby, hzc, hd, ud, hu, hag⟩ := tok_info hT hti
  obtain ⟨hz1, hz2⟩ := zero_ok (cx := cx) (β := β) (σ := σ) (w := w) ti.zero z.cells hzc
  obtain ⟨β', hR⟩ := h.alloc (d := d) (x := .box false (Nat.succ (σ.B d).gen) (mapL AV.val ti.zero)) (dst := o.dst) (v := .pb d (Nat.succ (σ.B d).gen) 0) (u := .pointer (some ⟨w.heap.size, 0, none⟩)) (c := z.cells) (t := t) (fr := (0, 0)) 1
    trivial rfl (fun w' F' β' B' h1 h2 h3 h4 h5 => box_ok h1 h3 h4 h5 hz1 (by simp) hz2)
    (fun w' F' β' B' h4 h5 => .pb d _ 0 _ rfl (by rw [h5]; exact Nat.le_refl _) (fun fz cs hb => by rw [h4]))
  refine ⟨_, _, β', .inl ?_, hR⟩
  unfold execOp
  simp [ho, Instr.alloc, run_zero hi hz, newVar, newRow]

theorem box_sound (h : Rel cx β σ a w) {o : Oper} {t : Nat} {x : Operand} (ho : o.op = .box t x) {cs : List AV} (hcs : (σ.ev x).cells = some cs) (d : Nat) :
    Snd cx.P o cx σ a w (.pb d (Nat.succ (σ.B d).gen) 0) [(d, .box false (Nat.succ (σ.B d).gen) cs)] := by
  obtain ⟨hz1, hz2⟩ := cells_sound (h.ev x) hcs
  obtain ⟨β', hR⟩ := h.alloc (d := d) (x := .box false (Nat.succ (σ.B d).gen) cs) (dst := o.dst) (v := .pb d (Nat.succ (σ.B d).gen) 0) (u := .pointer (some ⟨w.heap.size, 0, none⟩)) (c := (a.eval x).cells) (t := t) (fr := (0, 0)) 1
    trivial rfl (fun w' F' β' B' h1 h2 h3 h4 h5 => box_ok h1 h3 h4 h5 hz1 (by simp) hz2)
    (fun w' F' β' B' h4 h5 => .pb d _ 0 _ rfl (by rw [h5]; exact Nat.le_refl _) (fun fz cs hb => by rw [h4]))
  refine ⟨_, _, β', .inl ?_, hR⟩
  unfold execOp
  simp [ho, Instr.box, newVar, newRow]

end
end AB
end
section
namespace AB
open Go

def updL : List (Nat × Blk) → List (Nat × Blk) → List (Nat × Blk)
  | [], b => b
  | (d, x) :: r, b => updL r (setB d x b)
theorem St.upd_eq : ∀ (u : List (Nat × Blk)) (σ : St), σ.upd u = ⟨σ.s, updL u σ.b⟩
  | [], _ => rfl
  | (d, x) :: r, σ => by simp only [St.upd, updL]; rw [St.upd_eq r]
theorem ids_eq : ∀ (u : List (Nat × Blk)), ids u = u.map (·.1)
  | [] => rfl
  | (d, x) :: r => by simp [ids, ids_eq r]
theorem getB_updL_ne : ∀ (u : List (Nat × Blk)) (b : List (Nat × Blk)) (e : Nat), e ∉ ids u → getB e (updL u b) = getB e b
  | [], _, _, _ => rfl
  | (d, x) :: r, b, e, h => by
    simp only [ids, List.mem_cons, not_or] at h
    simp only [updL]
    rw [getB_updL_ne r _ e h.2, getB_setB, if_neg h.1]
theorem getB_updL_mem : ∀ (u : List (Nat × Blk)) (b : List (Nat × Blk)) (e : Nat) (x : Blk), (ids u).Nodup → (e, x) ∈ u → getB e (updL u b) = x
  | [], _, _, _, _, h => by cases h
  | (d, y) :: r, b, e, x, hn, h => by
    simp only [ids, List.nodup_cons] at hn
    simp only [updL]
    rcases List.mem_cons.1 h with h | h
    · simp only [Prod.mk.injEq] at h
      obtain ⟨rfl, rfl⟩ := h
      rw [getB_updL_ne r _ _ hn.1, getB_setB, if_pos rfl]
    · exact getB_updL_mem r _ e x hn.2 h
theorem mem_ids {u : List (Nat × Blk)} {e : Nat} : e ∈ ids u ↔ ∃ x, (e, x) ∈ u := by
  rw [ids_eq, List.mem_map]
  constructor
  · rintro ⟨⟨d, x⟩, h, rfl⟩; exact ⟨x, h⟩
  · rintro ⟨x, h⟩; exact ⟨(e, x), h, rfl⟩

theorem Blk.freeze_gen (x : Blk) : x.freeze.gen = x.gen := by cases x <;> rfl
theorem not_live_freeze (x : Blk) : ¬ isLive x.freeze := by cases x <;> simp [Blk.freeze, isLive]

/-- An own block that nobody writes any more. -/
theorem Rel.freeze {cx : Cx} {β : Nat → Nat × Nat} {σ : St} {a : Act} {w : World} (h : Rel cx β σ a w) {d : Nat} (hio : d ≠ ioId) (hB : σ.B d ≠ .none) :
    Rel cx β ⟨σ.s, setB d (σ.B d).freeze σ.b⟩ a w ∧ (∀ b, Fr cx w β σ.B b → Fr cx w β (fun e => getB e (setB d (σ.B d).freeze σ.b)) b) ∧ Fr cx w β (fun e => getB e (setB d (σ.B d).freeze σ.b)) (β d).1 := by
  have hBd : getB d (setB d (σ.B d).freeze σ.b) = (σ.B d).freeze := by rw [getB_setB, if_pos rfl]
  have hBe : ∀ e, e ≠ d → getB e (setB d (σ.B d).freeze σ.b) = σ.B e := fun e he => by rw [getB_setB, if_neg he]; rfl
  have hlv : ∀ e, live (fun e => getB e (setB d (σ.B d).freeze σ.b)) e → e ≠ d ∧ live σ.B e := by
    intro e hle
    by_cases hed : e = d
    · subst hed; rw [live_iff, hBd] at hle; exact absurd hle (not_live_freeze _)
    · exact ⟨hed, by rw [live_iff] at hle ⊢; rw [hBe e hed] at hle; exact hle⟩
  have hF : ∀ b, Fr cx w β σ.B b → Fr cx w β (fun e => getB e (setB d (σ.B d).freeze σ.b)) b := fun b ⟨h1, h2, h3⟩ => ⟨h1, h2, fun e hle => h3 e (hlv e hle).2⟩
  have hlt := (h.blk d).lt hB
  have hFd : Fr cx w β (fun e => getB e (setB d (σ.B d).freeze σ.b)) (β d).1 := by
    by_cases hld : live σ.B d
    · refine ⟨.inr ?_, hlt, fun e hle heq => (hlv e hle).1 (h.inj e d (hlv e hle).2 hld heq)⟩
      rcases h.own d hld with ho | ⟨ho, _⟩
      · exact ho
      · exact absurd ho hio
    · exact hF _ (h.fro d hB hld)
  have hk : Keep β σ.B β (fun e => getB e (setB d (σ.B d).freeze σ.b)) := by
    refine ⟨fun e => ?_, fun e g2 fz2 fx2 sz2 n2 f2 hb2 _ => ?_, fun e g2 fz2 cs2 hb2 _ => ?_⟩
    · by_cases hed : e = d
      · subst hed; simp only [hBd, Blk.freeze_gen]; exact Nat.le_refl _
      · simp only [hBe e hed]; exact Nat.le_refl _
    · by_cases hed : e = d
      · subst hed
        simp only [hBd] at hb2
        cases hb : σ.B e with
        | none => rw [hb] at hb2; cases hb2
        | box => rw [hb] at hb2; cases hb2
        | arr fz fx g sz n f =>
          rw [hb] at hb2
          simp only [Blk.freeze, Blk.arr.injEq] at hb2
          obtain ⟨-, -, rfl, rfl, rfl, -⟩ := hb2
          exact ⟨fz, fx, _, f, rfl, Int.le_refl _, fun _ => rfl⟩
      · simp only [hBe e hed] at hb2
        exact ⟨fz2, fx2, n2, f2, hb2, Int.le_refl _, fun _ => rfl⟩
    · by_cases hed : e = d
      · subst hed
        simp only [hBd] at hb2
        cases hb : σ.B e with
        | none => rw [hb] at hb2; cases hb2
        | arr => rw [hb] at hb2; cases hb2
        | box fz g cs =>
          rw [hb] at hb2
          simp only [Blk.freeze, Blk.box.injEq] at hb2
          obtain ⟨-, rfl, rfl⟩ := hb2
          exact ⟨fz, _, rfl, rfl⟩
      · simp only [hBe e hed] at hb2
        exact ⟨fz2, cs2, hb2, rfl⟩
  refine ⟨?_, hF, hFd⟩
  have hR := h.step (w' := w) (β' := β) (dst := none) (v := .any) (u := undef) (b' := setB d (σ.B d).freeze σ.b) hF (fun _ _ _ => rfl) hk (.cl (.any _)) (fun e => ?_) (fun e hle => h.own e (hlv e hle).2)
    (fun e e' he he' => h.inj e e' (hlv e he).2 (hlv e' he').2) (fun e he1 he2 => ?_) (BelowX.refl _ _ _)
  · exact hR
  · by_cases hed : e = d
    · subst hed
      right
      have hbk := h.blk e
      unfold BlkOK at hbk ⊢
      simp only [hBd]
      cases hb : σ.B e with
      | none => exact absurd hb hB
      | box fz g cs =>
        rw [hb] at hbk
        obtain ⟨c, t, fr, k1, k2, k3, k4⟩ := hbk
        refine ⟨c, t, fr, k1, k2, k3, fun j x hx => let ⟨y, h1, h2⟩ := k4 j x hx; ⟨y, h1, h2.mono ?_ (fun _ _ _ => rfl) ?_⟩⟩
        · rw [← hb]; exact hF
        · rw [← hb]; exact hk
      | arr fz fx g sz n f =>
        rw [hb] at hbk
        obtain ⟨c, t, fr, len, k0, k1, k2, k3, k4, k5, k6, k7⟩ := hbk
        refine ⟨c, t, fr, len, k0, k1, k2, k3, k4, k5, k6, fun i hi => ⟨(k7 i hi).1, fun j x hx => let ⟨y, h1, h2, h3⟩ := (k7 i hi).2 j x hx; ⟨y, h1, h2, h3.mono ?_ (fun _ _ _ => rfl)⟩⟩⟩
        rw [← hb]; exact hF
    · exact .inl ⟨hBe e hed, rfl, fun _ => rfl⟩
  · by_cases hed : e = d
    · rw [hed]; exact hFd
    · refine hF _ (h.fro e (by rw [← hBe e hed]; exact he1) (fun hl => he2 ?_))
      rw [live_iff] at hl ⊢
      simp only [hBe e hed]; exact hl

theorem freeze_idem (x : Blk) : x.freeze.freeze = x.freeze := by cases x <;> rfl

/-- .. several of them -/
theorem Rel.freezeL {cx : Cx} {β : Nat → Nat × Nat} {a : Act} {w : World} {B0 : Nat → Blk} : ∀ (l : List Nat) {σ : St}, Rel cx β σ a w → (∀ d, d ∈ l → d ≠ ioId ∧ B0 d ≠ .none) → (∀ d, σ.B d = B0 d ∨ σ.B d = (B0 d).freeze) →
    Rel cx β ⟨σ.s, updL (freezes B0 l) σ.b⟩ a w ∧ (∀ b, Fr cx w β σ.B b → Fr cx w β (fun e => getB e (updL (freezes B0 l) σ.b)) b) ∧ (∀ d, d ∈ l → Fr cx w β (fun e => getB e (updL (freezes B0 l) σ.b)) (β d).1) ∧
    (∀ d, getB d (updL (freezes B0 l) σ.b) = if d ∈ l then (B0 d).freeze else σ.B d)
  | [], σ, h, _, _ => ⟨h, fun _ h => h, fun _ h => absurd h (by simp), fun d => by simp [freezes, updL, St.B]⟩
  | d :: r, σ, h, hl, hB => by
    obtain ⟨h1, h2⟩ := hl d (by simp)
    have hfz : (σ.B d).freeze = (B0 d).freeze := by
      rcases hB d with hb | hb
      · rw [hb]
      · rw [hb, freeze_idem]
    have hne : σ.B d ≠ .none := by
      rcases hB d with hb | hb
      · rw [hb]; exact h2
      · rw [hb]; intro hc; cases hb0 : B0 d with
        | none => exact h2 hb0
        | _ => rw [hb0] at hc; cases hc
    obtain ⟨g1, g2, g3⟩ := h.freeze h1 hne
    have hB' : ∀ e, (⟨σ.s, setB d (σ.B d).freeze σ.b⟩ : St).B e = if e = d then (σ.B d).freeze else σ.B e := fun e => by show getB e (setB d _ σ.b) = _; rw [getB_setB]; rfl
    obtain ⟨q1, q2, q3, q4⟩ := Rel.freezeL r (σ := ⟨σ.s, setB d (σ.B d).freeze σ.b⟩) g1 (fun e he => hl e (by simp [he])) (fun e => by
      rw [hB' e]
      by_cases he : e = d
      · subst he; rw [if_pos rfl]; exact .inr hfz
      · rw [if_neg he]; exact hB e)
    simp only [freezes, updL]
    rw [← hfz]
    refine ⟨q1, fun b hb => q2 b (g2 b hb), fun e he => ?_, fun e => ?_⟩
    · rcases List.mem_cons.1 he with rfl | he
      · exact q2 _ g3
      · exact q3 e he
    · rw [q4 e, hB' e]
      by_cases her : e ∈ r
      · rw [if_pos her, if_pos (by simp [her])]
      · rw [if_neg her]
        by_cases hed : e = d
        · subst hed; rw [if_pos rfl, if_pos (by simp), hfz]
        · rw [if_neg hed, if_neg (by simp [hed, her])]

theorem updL_append : ∀ (u v : List (Nat × Blk)) (b : List (Nat × Blk)), updL (u ++ v) b = updL v (updL u b)
  | [], _, _ => rfl
  | (d, x) :: r, v, b => by simp only [List.cons_append, updL]; exact updL_append r v _
/-- what may be read, with own blocks added -/
def F1 (cx : Cx) (w : World) (β : Nat → Nat × Nat) (B : Nat → Blk) (l : List Nat) (b : Nat) : Prop := Fr cx w β B b ∨ ∃ d, d ∈ l ∧ (β d).1 = b
theorem F1.mono {cx : Cx} {w : World} {β : Nat → Nat × Nat} {B : Nat → Blk} {l m : List Nat} (h : ∀ d, d ∈ l → d ∈ m) (b : Nat) (hb : F1 cx w β B l b) : F1 cx w β B m b :=
  hb.imp id (fun ⟨d, h1, h2⟩ => ⟨d, h d h1, h2⟩)

section
variable {cx : Cx} {β : Nat → Nat × Nat} {σ : St} {a : Act} {w : World}
def VSnd (cx : Cx) (β : Nat → Nat × Nat) (σ : St) (w : World) (v : AV → VR) : Prop :=
  ∀ x u pre x' l, v x = .ok pre x' l → pre → Rep w (Fr cx w β σ.B) β σ.B x u → RepC w (F1 cx w β σ.B l) x' u ∧ ∀ d, d ∈ l → σ.B d ≠ .none

theorem view0_sound (h : Rel cx β σ a w) : VSnd cx β σ w (view0 σ.B) := by
  intro x u pre x' l hv hp hx
  unfold view0 at hv
  split at hv
  · cases hv
  · cases hv
  · simp only [VR.ok.injEq] at hv
    obtain ⟨-, rfl, rfl⟩ := hv
    rw [hx.val_inv]
    exact ⟨.val _, by simp⟩
  · simp only [VR.ok.injEq] at hv
    obtain ⟨-, rfl, rfl⟩ := hv
    exact ⟨hx.lst_inv.mono (fun _ h => .inl h) (fun _ _ _ => rfl), by simp⟩
  · simp only [VR.ok.injEq] at hv
    obtain ⟨-, rfl, rfl⟩ := hv
    exact ⟨hx.fp_inv.mono (fun _ h => .inl h) (fun _ _ _ => rfl), by simp⟩
  · rename_i d g n
    split at hv
    · rename_i fz fx g' sz n' f hB
      split at hv
      · rename_i hg
        obtain rfl := eqN_eq hg
        simp only [VR.ok.injEq] at hv
        obtain ⟨rfl, rfl, rfl⟩ := hv
        obtain rfl := hp
        have he := hx.sl_inv.2.2 _ _ _ _ hB
        have hbk := h.blk d
        unfold BlkOK at hbk
        rw [hB] at hbk
        obtain ⟨cc, tt, fr, len, rfl, k1, k2, k3, k4, k5, k6, k7⟩ := hbk
        rw [Int.toNat_natCast] at he
        refine ⟨?_, fun e he' => by simp only [List.mem_singleton] at he'; subst he'; rw [hB]; intro hc; cases hc⟩
        rw [he]
        refine .lst len _ f (β d).1 0 _ sz (fun i j => (cc[i * sz + j]?).getD undef) rfl (.inr ⟨d, by simp, rfl⟩) k3 (fun i hi => (k7 i hi).1) (fun i hi j x hx => ?_) (fun i hi j x hx => ?_) (fun i hi j x hx => ?_)
        · obtain ⟨y, hy, _⟩ := (k7 i hi).2 j x hx
          rw [cell_of_row w _ _ cc tt fr k1, Nat.zero_add, hy]; rfl
        · obtain ⟨y, hy, h1, hr⟩ := (k7 i hi).2 j x hx
          rw [hy]; exact h1
        · obtain ⟨y, hy, h1, hr⟩ := (k7 i hi).2 j x hx
          rw [hy]; exact hr.mono (fun _ h => .inl h) (fun _ _ _ => rfl)
      · cases hv
    · cases hv
  · cases hv

theorem views_sound {v : AV → VR} (hs : VSnd cx β σ w v) : ∀ (xs : List AV) (us : Nat → Value) (pre : Prop) (xs' : List AV) (l : List Nat), views v xs = .ok pre xs' l → pre →
    (∀ (j : Nat) (x : AV), xs[j]? = some x → Rep w (Fr cx w β σ.B) β σ.B x (us j)) →
    xs'.length = xs.length ∧ (∀ d, d ∈ l → σ.B d ≠ .none) ∧ ∀ (j : Nat) (x' : AV), xs'[j]? = some x' → RepC w (F1 cx w β σ.B l) x' (us j)
  | [], us, pre, xs', l, h, _, _ => by
    simp only [views, VRs.ok.injEq] at h
    obtain ⟨-, rfl, rfl⟩ := h
    exact ⟨rfl, by simp, by simp⟩
  | x :: r, us, pre, xs', l, h, hp, hr => by
    unfold views at h
    split at h
    · rename_i p y i q m j hv hvs
      simp only [VRs.ok.injEq] at h
      obtain ⟨rfl, rfl, rfl⟩ := h
      obtain ⟨g1, g2, g3⟩ := views_sound hs r (fun k => us (k + 1)) _ _ _ hvs hp.2 (fun k z hz => hr (k + 1) z (by simpa using hz))
      rw [appL_eq]
      obtain ⟨k1, k2⟩ := hs x (us 0) _ _ _ hv hp.1 (hr 0 x rfl)
      refine ⟨by simp [g1], fun d hd => ?_, fun k z' hz' => ?_⟩
      · rcases List.mem_append.1 hd with hd | hd
        · exact k2 d hd
        · exact g2 d hd
      · cases k with
        | zero =>
          simp only [List.getElem?_cons_zero, Option.some.injEq] at hz'
          subst hz'
          exact k1.mono (F1.mono (fun d hd => List.mem_append.2 (.inl hd))) (fun _ _ _ => rfl)
        | succ k =>
          simp only [List.getElem?_cons_succ] at hz'
          exact (g3 k z' hz').mono (F1.mono (fun d hd => List.mem_append.2 (.inr hd))) (fun _ _ _ => rfl)
    · cases h

theorem view0_one {B : Nat → Blk} {x a : AV} {p : Prop} {l : List Nat} (h : view0 B x = .ok p a l) : x.oneC = true := by
  unfold view0 at h
  split at h <;> first | cases h; done | rfl | skip
  rename_i v h1 h2
  cases v <;> first | rfl | exact absurd rfl (h1 _) | exact absurd rfl (h2 _)
theorem views_one {B : Nat → Blk} : ∀ (xs : List AV) {p : Prop} {ys : List AV} {l : List Nat}, views (view0 B) xs = .ok p ys l → ∀ (j : Nat) (x : AV), xs[j]? = some x → x.oneC = true
  | [], _, _, _, _, j, x, hx => by simp at hx
  | y :: r, p, ys, l, h, j, x, hx => by
    unfold views at h
    split at h
    · rename_i hv hvs
      cases j with
      | zero => simp only [List.getElem?_cons_zero, Option.some.injEq] at hx; subst hx; exact view0_one hv
      | succ j => exact views_one r hvs j x (by simpa using hx)
    · cases h
end
end AB
end
