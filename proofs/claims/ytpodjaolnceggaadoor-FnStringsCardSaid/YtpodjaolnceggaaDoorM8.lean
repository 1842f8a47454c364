/- Part 8 of the proof: an abstract machine over the translated code, the functions' contracts, and the plain law. -/
import Derived.Laws.StructEq
import Derived.ChangeKeysEq
import Derived.Test.YtpodjaolnceggaaDoorM7
set_option linter.unusedSimpArgs false
set_option linter.unusedVariables false
set_option linter.unusedSectionVars false
section
namespace AB
open Go

section
variable {cx : Cx} {β : Nat → Nat × Nat} {σ : St} {a : Act} {w : World}

theorem eq1_sound {P : Program} {T : Nat → Option TI} (hT : TOK P T) {t : Nat} {x y : AV} {b : Bool} (h : eq1 std T t x y = some b) (d : Nat) :
    ∃ u v, x = .val u ∧ y = .val v ∧ (Op.equalIn (d + 1) t u v).run P w = .ok b w := by
  unfold eq1 at h
  split at h
  · rename_i ti hti
    obtain ⟨_, _, _, _, _, _, _, hd, _⟩ := tok_info hT hti
    split at h
    · rename_i hdesc
      split at h
      · rename_i hk
        obtain rfl := kEq_eq hk
        simp only [Option.some.injEq] at h
        subst h
        exact ⟨_, _, rfl, rfl, run_equalIn_int w d t _ _ _ _ (td_int (hd.trans hdesc))⟩
      · cases h
    · rename_i hdesc
      simp only [Option.some.injEq] at h
      subst h
      exact ⟨_, _, rfl, rfl, run_equalIn_string w d t _ _ (td_str (hd.trans hdesc))⟩
    · rename_i hdesc
      simp only [Option.some.injEq] at h
      subst h
      exact ⟨_, _, rfl, rfl, run_equalIn_bool' w d t _ _ (td_bool (hd.trans hdesc))⟩
    · cases h
  · cases h

theorem part_cell {P : Program} {t : Nat} (hs : scalT P t = true) {vs : Array Value} {off : Nat} {c : Value} (hc : vs[off]? = some c) : (part t vs off).run P w = .ok c w := by
  unfold scalT at hs
  have : ∃ u, P.underlying t = some u ∧ isAggD u = false := by
    split at hs
    · rename_i h; exact ⟨_, h, rfl⟩
    · rename_i h; exact ⟨_, h, rfl⟩
    · rename_i h; exact ⟨_, h, rfl⟩
    · cases hs
  obtain ⟨u, hu, hag⟩ := this
  unfold part
  simp only [Sem.run_bind, run_isAgg hu, Result.andThen_ok, hag, Bool.false_eq_true, if_false, hc, Sem.run_pure]

theorem agg_sound {T : Nat → Option TI} (hT : TOK cx.P T) (h : Rel cx β σ a w) {o : Oper} {op : BinOp} {t u : Nat} {x y : Operand} (ho : o.op = .binOp op t x y u) {xs : List AV} (hx : σ.ev x = .agg xs) {pre : Prop} {v : AV} {upd : List (Nat × Blk)} {rd : List Nat}
    (hs : aggF std T t op xs (σ.ev y) = .ok pre v upd rd) : Snd cx.P o cx σ a w v upd := by
  have hX := h.ev x
  rw [hx] at hX
  obtain ⟨va, ua, hva, la, ca, ra⟩ := hX.agg_inv
  have getA : ∀ {off : Nat} {z : Value}, xs[off]? = some (.val z) → va[off]? = some z := fun {off z} hz => by
    rw [ca _ _ hz, (ra _ _ hz).val_inv]
  -- two of the type, compared
  have key : ∀ ys, σ.ev y = .agg ys → ∀ b, eqAgg std T t xs ys = some b → ∃ vb, a.eval y = .agg vb ∧ (eqGuard op t x y (.agg va) (.agg vb)).run cx.P w = .ok () w ∧ (Op.equalIn 10000 t (.agg va) (.agg vb)).run cx.P w = .ok b w := by
    intro ys hy b hb
    have hY := h.ev y
    rw [hy] at hY
    obtain ⟨vb, ub, hvb, lb, cb, rb⟩ := hY.agg_inv
    have getB : ∀ {off : Nat} {z : Value}, ys[off]? = some (.val z) → vb[off]? = some z := fun {off z} hz => by
      rw [cb _ _ hz, (rb _ _ hz).val_inv]
    refine ⟨vb, hvb, ?_⟩
    unfold eqAgg at hb
    split at hb
    · rename_i ti hti
      have heq := tok_eq hT hti
      split at hb
      · cases hb
      · rename_i hne
        rw [← heq] at hb hne
        unfold eqOf at hb
        split at hb
        · rename_i fs hfs
          split at hb
          · rename_i h1 h2 h3
            refine ⟨run_eqGuard_agg w op t x y va vb h3, ?_⟩
            have hfo : cx.P.fieldsOf t = fs := by unfold Program.fieldsOf; rw [hfs]
            rw [run_equalIn_struct w 9999 t va vb (by rw [hfo]; exact hfs) h2, hfo]
            rw [List.all_eq_true] at h1
            clear hne hfo hfs
            generalize fs.toList = l at h1 hb
            induction l generalizing b with
            | nil =>
              simp only [List.map_nil, eqFs, Option.some.injEq] at hb
              subst hb
              simp [Op.eqFields]
            | cons f r ih =>
              have hf := h1 f (by simp)
              simp only [Bool.and_eq_true, bne_iff_ne, ne_eq] at hf
              simp only [List.map_cons, eqFs] at hb
              split at hb
              · rename_i xx yy hxx hyy
                split at hb
                · rename_i b1 c1 hb1 hc1
                  simp only [Option.some.injEq] at hb
                  subst hb
                  obtain ⟨u1, v1, rfl, rfl, hrun⟩ := eq1_sound (w := w) hT hb1 9998
                  rw [getL_eq] at hxx hyy
                  have ih' := ih c1 (fun g hg => h1 g (by simp [hg])) hc1
                  simp only [Op.eqFields, ne_eq, hf.1, not_false_eq_true, if_true, Sem.run_bind, part_cell (w := w) hf.2 (getA hxx), part_cell (w := w) hf.2 (getB hyy), Result.andThen_ok, hrun]
                  cases b1
                  · simp [std]
                  · simp only [Bool.not_true, Bool.false_eq_true, if_false]
                    rw [ih']
                    simp [std]
                · cases hb
              · cases hb
          · rename_i hx
            exfalso
            apply hne
            unfold eqOf
            rw [hfs]
            dsimp only
            split
            · rename_i q1 q2 q3; exact (hx q1 q2 q3).elim
            · rfl
        · rename_i n e hfs
          split at hb
          · rename_i h1 h2 h3
            refine ⟨run_eqGuard_agg w op t x y va vb h3, ?_⟩
            obtain ⟨i, hi⟩ := Option.isSome_iff_exists.1 h2
            rw [run_equalIn_array w 9999 va vb hfs hi]
            clear hne
            generalize List.range n = l at hb
            induction l generalizing b with
            | nil =>
              simp only [List.map_nil, eqFs, Option.some.injEq] at hb
              subst hb
              simp [Op.eqItems]
            | cons f r ih =>
              simp only [List.map_cons, eqFs] at hb
              split at hb
              · rename_i xx yy hxx hyy
                split at hb
                · rename_i b1 c1 hb1 hc1
                  simp only [Option.some.injEq] at hb
                  subst hb
                  obtain ⟨u1, v1, rfl, rfl, hrun⟩ := eq1_sound (w := w) hT hb1 9998
                  rw [getL_eq] at hxx hyy
                  have ih' := ih c1 hc1
                  simp only [Op.eqItems, Sem.run_bind, part_cell (w := w) h1 (getA hxx), part_cell (w := w) h1 (getB hyy), Result.andThen_ok, hrun]
                  cases b1
                  · simp [std]
                  · simp only [Bool.not_true, Bool.false_eq_true, if_false]
                    rw [ih']
                    simp [std]
                · cases hb
              · cases hb
          · rename_i hx
            exfalso
            apply hne
            unfold eqOf
            rw [hfs]
            dsimp only
            split
            · rename_i q1 q2 q3; exact (hx q1 q2 q3).elim
            · rfl
        · rename_i hx1 hx2
          exfalso
          apply hne
          unfold eqOf
          split
          · rename_i fs hfs; exact (hx1 fs hfs).elim
          · rename_i n e hfs; exact (hx2 n e hfs).elim
          · rfl
    · cases hb
  have fin : ∀ (c vb : Value), a.eval y = vb → (eqGuard op t x y (.agg va) vb).run cx.P w = .ok () w → (binOp op t (.agg va) vb).run cx.P w = .ok c w → (execOp a.eval o).run cx.P w = .ok (.value c) w := by
    intro c vb hy hg hb
    unfold execOp
    simp only [ho, hva, hy]
    simp only [Sem.run_bind, hg, Result.andThen_ok, hb, Sem.run_pure]
  unfold aggF at hs
  split at hs
  · rename_i ys hy
    split at hs
    · rename_i b hb
      simp only [SR.ok.injEq] at hs
      obtain ⟨-, rfl, rfl, -⟩ := hs
      obtain ⟨vb, h1, h2, h3⟩ := key ys hy b hb
      refine Snd.pure h (fin _ _ h1 h2 ?_) (.cl (.val _))
      rw [run_eql_struct, h3]; rfl
    · cases hs
  · rename_i ys hy
    split at hs
    · rename_i b hb
      simp only [SR.ok.injEq] at hs
      obtain ⟨-, rfl, rfl, -⟩ := hs
      obtain ⟨vb, h1, h2, h3⟩ := key ys hy b hb
      refine Snd.pure h (fin _ _ h1 h2 ?_) (.cl (.val _))
      rw [run_neq_struct, h3]; rfl
    · cases hs
  · cases hs
end
end AB
end
section
namespace AB
open Go

section
variable {cx : Cx} {β : Nat → Nat × Nat} {σ : St} {a : Act} {w : World}

theorem step_sound {T : Nat → Option TI} (hT : TOK cx.P T) (h : Rel cx β σ a w) {o : Oper} (d : Nat) {pre : Prop} {v : AV} {upd : List (Nat × Blk)} {rd : List Nat}
    (hs : stepF std T σ.ev σ.B d o.op = .ok pre v upd rd) (hp : pre) : Snd cx.P o cx σ a w v upd := by
  generalize hop : o.op = op at hs
  cases op <;> simp only [stepF, reduceCtorEq] at hs
  case move x =>
    simp only [SR.ok.injEq] at hs
    obtain ⟨-, rfl, rfl, -⟩ := hs
    exact move_sound h (.inl hop)
  case assign x =>
    simp only [SR.ok.injEq] at hs
    obtain ⟨-, rfl, rfl, -⟩ := hs
    exact move_sound h (.inr hop)
  case pick c x y =>
    split at hs
    · rename_i hc
      simp only [SR.ok.injEq] at hs
      obtain ⟨-, rfl, rfl, -⟩ := hs
      exact pick_sound h hop hc
    · rename_i hc
      simp only [SR.ok.injEq] at hs
      obtain ⟨-, rfl, rfl, -⟩ := hs
      exact pick_sound h hop hc
    · cases hs
  case alloc t =>
    split at hs
    · rename_i ti hti
      split at hs
      · simp only [SR.ok.injEq] at hs
        obtain ⟨-, rfl, rfl, -⟩ := hs
        exact alloc_sound hT h hop hti d
      · cases hs
    · cases hs
  case box t x =>
    split at hs
    · rename_i cs hcs
      split at hs
      · simp only [SR.ok.injEq] at hs
        obtain ⟨-, rfl, rfl, -⟩ := hs
        exact box_sound h hop hcs d
      · cases hs
    · cases hs
  case build t parts => exact build_sound hT h hop hs
  case buildSlice t len parts => exact buildSlice_sound hT h hop d hs hp
  case load t x => exact load_sound hT h hop hs hp
  case store t x y => exact store_sound hT h hop hs hp
  case nilCheck x =>
    split at hs
    · rename_i f cs hx
      simp only [SR.ok.injEq] at hs
      obtain ⟨-, rfl, rfl, -⟩ := hs
      exact nilCheck_clo h hop hx
    · rename_i y hx
      split at hs
      · rename_i cs o' pre' rd' hloc
        simp only [SR.ok.injEq] at hs
        obtain ⟨rfl, rfl, rfl, -⟩ := hs
        exact nilCheck_sound h hop rfl hloc hp
      · cases hs
  case binOp op t x y u =>
    unfold opF at hs
    split at hs
    · rename_i xs hx; exact agg_sound hT h hop hx hs
    · exact bin_snd hT h hop hs hp
  case unOp op t x =>
    split at hs
    · rename_i b hx
      simp only [SR.ok.injEq] at hs
      obtain ⟨-, rfl, rfl, -⟩ := hs
      exact (un_sound h hop).1 b rfl hx
    · rename_i k n hx
      simp only [SR.ok.injEq] at hs
      obtain ⟨-, rfl, rfl, -⟩ := hs
      exact (un_sound h hop).2 k n rfl hx
    · cases hs
  case convert s t x => exact conv_sound hT h hop d hs hp
  case makeFunc fn first cap =>
    split at hs
    · rename_i f hf
      split at hs
      · simp only [SR.ok.injEq] at hs
        obtain ⟨-, rfl, rfl, -⟩ := hs
        exact makeFunc_sound h hop hf
      · cases hs
    · cases hs
  case makeSlice t x y => exact makeSlice_sound hT h hop d hs hp
  case slice t x lo hi mx => exact slice_sound hT h hop hs hp
  case fieldAddr t x f => exact fieldAddr_sound hT h hop hs hp
  case field t x f => exact field_sound hT h hop hs
  case indexAddr t x i => exact indexAddr_sound hT h hop hs hp
  case index t x i => exact index_sound hT h hop hs hp
  case extract x i =>
    split at hs
    · rename_i vs hx
      split at hs
      · rename_i v' hv
        simp only [SR.ok.injEq] at hs
        obtain ⟨-, rfl, rfl, -⟩ := hs
        exact extract_sound h hop hx hv
      · cases hs
    · cases hs
  case call c =>
    split at hs
    · rename_i hcal
      split at hs
      · rename_i x t hargs hty
        exact len_sound hT h hop hcal hargs hty hs hp
      · cases hs
    · rename_i hcal
      split at hs
      · rename_i x y t u hargs hty
        split at hs
        · rename_i hb
          obtain rfl := eqN_eq hb
          exact append_sound hT h hop hcal hargs hty d hs hp
        · cases hs
      · cases hs
    · rename_i hcal
      split at hs
      · rename_i k b r hargs
        exact minmax_sound (isMax := false) h hop hcal hargs hs
      · cases hs
    · rename_i hcal
      split at hs
      · rename_i k b r hargs
        exact minmax_sound (isMax := true) h hop hcal hargs hs
      · cases hs
    · cases hs

end

/-! ### What an operation reads and writes -/

/-- two views of the state agree on what the operation looks at -/
theorem mapL_congr {α γ : Type} {f g : α → γ} : ∀ (l : List α), (∀ x ∈ l, f x = g x) → mapL f l = mapL g l
  | [], _ => rfl
  | x :: r, h => by simp only [mapL]; rw [h x (by simp), mapL_congr r (fun y hy => h y (by simp [hy]))]
theorem mapP_congr {ρ ρ' : Operand → AV} : ∀ (l : List (Nat × Operand)), (∀ x ∈ l.map (·.2), ρ x = ρ' x) → mapP ρ l = mapP ρ' l
  | [], _ => rfl
  | (i, x) :: r, h => by simp only [mapP]; rw [h x (by simp), mapP_congr r (fun y hy => h y (by simp at hy ⊢; exact .inr hy))]
theorem optMap_congr {ρ ρ' : Operand → AV} (l : Option Operand) (h : ∀ x ∈ l.toArray, ρ x = ρ' x) : optMap ρ l = optMap ρ' l := by
  cases l with
  | none => rfl
  | some x => simp only [optMap]; rw [h x (by simp)]

theorem step_ops {L : Leaf} {T : Nat → Option TI} {ρ ρ' : Operand → AV} {B : Nat → Blk} {d : Nat} (op : Op) (h : ∀ x ∈ op.operands, ρ x = ρ' x) : stepF L T ρ B d op = stepF L T ρ' B d op := by
  cases op <;> simp only [Op.operands] at h <;> simp only [stepF]
  case move x => rw [h x (by simp)]
  case assign x => rw [h x (by simp)]
  case pick c x y => rw [h c (by simp), h x (by simp), h y (by simp)]
  case box t x => rw [h x (by simp)]
  case build t ps => rw [mapP_congr _ (fun x hx => h x (by simpa using hx))]
  case buildSlice t n ps => rw [mapP_congr _ (fun x hx => h x (by simpa using hx))]
  case load t x => rw [h x (by simp)]
  case store t x y => rw [h x (by simp), h y (by simp)]
  case nilCheck x => rw [h x (by simp)]
  case binOp op t x y u => rw [h x (by simp), h y (by simp)]
  case unOp op t x => rw [h x (by simp)]
  case convert s t x => rw [h x (by simp)]
  case makeFunc fn first cap => rw [mapL_congr cap.toList (fun x hx => h x (by simp at hx ⊢; exact .inr hx))]
  case makeSlice t x y => rw [h x (by simp), h y (by simp)]
  case slice t x lo hi mx => rw [h x (by simp), optMap_congr lo (fun y hy => h y (by simp at hy ⊢; simp [hy])), optMap_congr hi (fun y hy => h y (by simp at hy ⊢; simp [hy])), optMap_congr mx (fun y hy => h y (by simp at hy ⊢; simp [hy]))]
  case fieldAddr t x f => rw [h x (by simp)]
  case field t x f => rw [h x (by simp)]
  case indexAddr t x i => rw [h x (by simp), h i (by simp)]
  case index t x i => rw [h x (by simp), h i (by simp)]
  case extract x i => rw [h x (by simp)]
  case call c =>
    have ha : ∀ x ∈ c.args.toList, ρ x = ρ' x := fun x hx => h x (by simp only [Call.operands, Array.mem_append]; right; simpa using hx)
    split
    · split
      · rename_i x t hargs _
        rw [ha x (by rw [hargs]; simp)]
      · rfl
    · split
      · rename_i x y t u hargs _
        rw [ha x (by rw [hargs]; simp), ha y (by rw [hargs]; simp)]
      · rfl
    · rw [mapL_congr _ ha]
    · rw [mapL_congr _ ha]
    · rfl

end AB
end
section
namespace AB
open Go

/-- Several own blocks have turned, or are new. -/
theorem Rel.many {cx : Cx} {β β' : Nat → Nat × Nat} {σ : St} {a : Act} {w w' : World} (h : Rel cx β σ a w) {u : List (Nat × Blk)} (hnd : (ids u).Nodup) {dst : Option Nat} {v : AV} {uv : Value}
    (hβ : ∀ e, e ∉ ids u → β' e = β e) (hl : ∀ e x, (e, x) ∈ u → isLive x)
    (hh : ∀ k, k < w.heap.size → (∀ e, e ∈ ids u → live σ.B e → k ≠ (β e).1) → w'.heap[k]? = w.heap[k]?)
    (hd : ∀ e, e ∈ ids u → (w.heap.size ≤ (β' e).1) ∨ (live σ.B e ∧ (β' e).1 = (β e).1))
    (hui : ∀ e e', e ∈ ids u → e' ∈ ids u → (β' e).1 = (β' e').1 → e = e')
    (hk : Keep β σ.B β' (fun e => getB e (updL u σ.b)))
    (hx : (∀ b, Fr cx w β σ.B b → Fr cx w' β' (fun e => getB e (updL u σ.b)) b) → (∀ b, Fr cx w β σ.B b → ∀ o, w'.cell? ⟨b, o, none⟩ = w.cell? ⟨b, o, none⟩) →
      ∀ e, e ∈ ids u → BlkOK w' (Fr cx w' β' (fun e => getB e (updL u σ.b))) β' (fun e => getB e (updL u σ.b)) e)
    (hv : (∀ b, Fr cx w β σ.B b → Fr cx w' β' (fun e => getB e (updL u σ.b)) b) → (∀ b, Fr cx w β σ.B b → ∀ o, w'.cell? ⟨b, o, none⟩ = w.cell? ⟨b, o, none⟩) →
      Rep w' (Fr cx w' β' (fun e => getB e (updL u σ.b))) β' (fun e => getB e (updL u σ.b)) v uv)
    (hos : w'.os = w.os) (htape : w'.tape = w.tape) (hout : w'.output = w.output) (hsize : w.heap.size ≤ w'.heap.size) :
    Rel cx β' ((σ.put dst v).upd u) (a.put dst uv) w' := by
  have hB : ∀ e, e ∉ ids u → getB e (updL u σ.b) = σ.B e := fun e he => getB_updL_ne u _ e he
  have hBl : ∀ e, e ∈ ids u → isLive (getB e (updL u σ.b)) := fun e he => by
    obtain ⟨x, hx⟩ := mem_ids.1 he
    rw [getB_updL_mem u _ e x hnd hx]; exact hl e x hx
  have hlive : ∀ e, e ∉ ids u → (live (fun e => getB e (updL u σ.b)) e ↔ live σ.B e) := fun e he => by rw [live_iff, live_iff]; show isLive (getB e _) ↔ _; rw [hB e he]
  have hlt : ∀ e, σ.B e ≠ .none → (β e).1 < w.heap.size := fun e he => (h.blk e).lt he
  have hn : ∀ e, live σ.B e → σ.B e ≠ .none := fun e he hc => by rw [live_iff, hc] at he; exact he
  have hne : ∀ e d, e ∉ ids u → d ∈ ids u → σ.B e ≠ .none → live σ.B d → (β e).1 ≠ (β d).1 := by
    intro e d he hdm hen hld heq
    by_cases hle : live σ.B e
    · exact he (h.inj e d hle hld heq ▸ hdm)
    · exact (h.fro e hen hle).2.2 d hld heq.symm
  have hF : ∀ b, Fr cx w β σ.B b → Fr cx w' β' (fun e => getB e (updL u σ.b)) b := by
    rintro b ⟨h1, h2, h3⟩
    refine ⟨h1, Nat.lt_of_lt_of_le h2 hsize, fun e he => ?_⟩
    by_cases hed : e ∈ ids u
    · rcases hd e hed with hd | ⟨hd1, hd2⟩
      · omega
      · rw [hd2]; exact h3 _ hd1
    · rw [hβ e hed]
      exact h3 e ((hlive e hed).1 he)
  have hw : ∀ b, Fr cx w β σ.B b → ∀ o, w'.cell? ⟨b, o, none⟩ = w.cell? ⟨b, o, none⟩ := fun b hb o =>
    World.cell?_of_block (a := ⟨b, o, none⟩) (hh b hb.2.1 (fun d _ hl => fun e => hb.2.2 d hl e.symm))
  have hs : (σ.put dst v).b = σ.b := by cases dst <;> rfl
  have key := h.step (w' := w') (β' := β') (dst := dst) (v := v) (u := uv) (b' := updL u σ.b) hF hw hk (hv hF hw) (fun e => ?_) (fun e he => ?_) (fun e e' he he' heq => ?_) (fun e he hne' => ?_)
    ⟨hos, htape, hout, hsize, fun k hk hX => hh k (Nat.lt_of_lt_of_le hk h.bas) (fun d _ hl heq => ?_)⟩
  · rw [St.upd_eq, hs]
    exact key
  · by_cases hed : e ∈ ids u
    · exact .inr (hx hF hw e hed)
    · exact .inl ⟨hB e hed, hβ e hed, fun hen => hh _ (hlt e hen) (fun d hdm hl => hne e d hed hdm hen hl)⟩
  · by_cases hed : e ∈ ids u
    · rcases hd e hed with hd | ⟨hd1, hd2⟩
      · exact .inl (Nat.le_trans h.bas hd)
      · rw [hd2]; exact h.own _ hd1
    · rw [hβ e hed]; exact h.own e ((hlive e hed).1 he)
  · by_cases hed : e ∈ ids u
    · by_cases hed' : e' ∈ ids u
      · exact hui e e' hed hed' heq
      · exfalso
        have hle' := (hlive e' hed').1 he'
        rw [hβ e' hed'] at heq
        have := hlt e' (hn e' hle')
        rcases hd e hed with hd | ⟨hd1, hd2⟩
        · omega
        · rw [hd2] at heq; exact hed' (h.inj e' e hle' hd1 heq.symm ▸ hed)
    · have hle := (hlive e hed).1 he
      by_cases hed' : e' ∈ ids u
      · exfalso
        rw [hβ e hed] at heq
        have := hlt e (hn e hle)
        rcases hd e' hed' with hd | ⟨hd1, hd2⟩
        · omega
        · rw [hd2] at heq; exact hed (h.inj e e' hle hd1 heq ▸ hed')
      · rw [hβ e hed, hβ e' hed'] at heq
        exact h.inj e e' hle ((hlive e' hed').1 he') heq
  · by_cases hed : e ∈ ids u
    · exact absurd (live_iff.2 (hBl e hed)) hne'
    · rw [hβ e hed]
      exact hF _ (h.fro e (by rw [← hB e hed]; exact he) (fun hc => hne' ((hlive e hed).2 hc)))
  · rcases h.own d hl with h1 | ⟨_, h1⟩
    · omega
    · exact hX (heq ▸ h1)

end AB
end
section
namespace AB
open Go

section
variable {cx : Cx} {β : Nat → Nat × Nat} {σ : St} {a : Act} {w : World}

theorem view1_sound (h : Rel cx β σ a w) : VSnd cx β σ w (view1 σ.B) := by
  intro x u pre x' l hv hp hx
  unfold view1 at hv
  split at hv
  · rename_i d g o
    split at hv
    · rename_i fz g' cs hB
      split at hv
      · rename_i hg
        obtain rfl := eqN_eq hg
        split at hv
        · rename_i p l' i hvs
          simp only [VR.ok.injEq] at hv
          obtain ⟨rfl, rfl, rfl⟩ := hv
          have hptr := hx.pb_inv.2 _ _ hB
          have hbk := h.blk d
          unfold BlkOK at hbk
          rw [hB] at hbk
          obtain ⟨c, t, fr, k1, k2, k3, k4⟩ := hbk
          obtain ⟨g1, g2, g3⟩ := views_sound (view0_sound h) cs (fun j => (c[j]?).getD undef) _ _ _ hvs hp (fun j x hx => by
            obtain ⟨y, hy, hr⟩ := k4 j x hx
            rw [hy]; exact hr)
          refine ⟨?_, fun e he => ?_⟩
          · rw [hptr]
            have hfp : RepC w (F1 cx w β σ.B (d :: i)) (.fp l' o) (.pointer (some ⟨(β d).1, 0 + o, none⟩)) := by
              refine .fp l' o (β d).1 0 (fun j => (c[j]?).getD undef) (.inr ⟨d, by simp, rfl⟩) (fun j x hx => ?_) (fun j x hx => (g3 j x hx).mono (F1.mono (fun e he => by simp [he])) (fun _ _ _ => rfl))
              have hj : j < c.size := by rw [k2, ← g1]; exact (List.getElem?_eq_some_iff.1 hx).1
              rw [Nat.zero_add, cell_of_row w _ _ c t fr k1, Array.getElem?_eq_getElem hj]; rfl
            rw [Nat.zero_add] at hfp
            exact hfp
          · rcases List.mem_cons.1 he with rfl | he
            · rw [hB]; intro hc; cases hc
            · exact g2 e he
        · cases hv
      · cases hv
    · cases hv
  · exact view0_sound h _ u pre x' l hv hp hx

theorem viewA_sound (h : Rel cx β σ a w) : VSnd cx β σ w (viewA σ.B) := by
  intro x u pre x' l hv hp hx
  unfold viewA at hv
  split at hv
  · rename_i cs
    split at hv
    · rename_i p l' i hvs
      simp only [VR.ok.injEq] at hv
      obtain ⟨rfl, rfl, rfl⟩ := hv
      obtain ⟨vs, us, rfl, hl, hc, hr⟩ := hx.agg_inv
      obtain ⟨g1, g2, g3⟩ := views_sound (view0_sound h) cs us _ _ _ hvs hp hr
      refine ⟨.agg l' vs us (by rw [hl, g1]) (fun j x hx => ?_) g3, g2⟩
      have hj : j < cs.length := by rw [← g1]; exact (List.getElem?_eq_some_iff.1 hx).1
      exact hc j _ (List.getElem?_eq_getElem hj)
    · cases hv
  · rename_i f cs
    split at hv
    · rename_i p l' i hvs
      simp only [VR.ok.injEq] at hv
      obtain ⟨rfl, rfl, rfl⟩ := hv
      obtain ⟨vs, us, rfl, hl, hc, hr⟩ := hx.clo_inv
      obtain ⟨g1, g2, g3⟩ := views_sound (view1_sound h) cs us _ _ _ hvs hp hr
      refine ⟨.clo f l' vs us (by rw [hl, g1]) (fun j x hx => ?_) g3, g2⟩
      have hj : j < cs.length := by rw [← g1]; exact (List.getElem?_eq_some_iff.1 hx).1
      exact hc j _ (List.getElem?_eq_getElem hj)
    · cases hv
  · exact view1_sound h _ u pre x' l hv hp hx

end

/-! ### Contracts -/

/-- The package-level variables' blocks, and what they hold. -/
structure GI where
  N : Nat
  H : Nat → Option Obj
def GI.ok (G : GI) (w : World) : Prop := G.N ≤ w.heap.size ∧ ∀ b, b < G.N → w.heap[b]? = G.H b

def RepL (w : World) (F : Nat → Prop) (as : List AV) (vs : List Value) : Prop := vs.length = as.length ∧ ∀ (j : Nat) (a : AV), as[j]? = some a → ∃ v, vs[j]? = some v ∧ RepC w F a v

/-- an array's row of memory -/
def ArrAt (w : World) (F : Nat → Prop) (loc : Nat × Nat) (fx : Bool) (sz : Nat) (n : Int) (f : Int → List AV) : Prop :=
  ∃ (c : Array Value) (t : TypeId) (fr : Nat × Nat) (len : Nat), n = (len : Int) ∧ w.heap[loc.1]? = some (.cells c t fr) ∧ c.size = loc.2 * sz ∧ len ≤ loc.2 ∧ loc.2 ≤ maxLen ∧
      (∀ j, j < c.size → ¬ (fr.1 ≤ j ∧ j < fr.2)) ∧ (fx = false → fr = (0, 0)) ∧
      ∀ i : Nat, i < len → (f i).length = sz ∧ ∀ (j : Nat) (a : AV), (f i)[j]? = some a → ∃ u : Value, c[i * sz + j]? = some u ∧ u.oneCell' = true ∧ RepC w F a u
/-- a box's row of memory -/
def BoxAt (w : World) (F : Nat → Prop) (blk : Nat) (cs : List AV) : Prop :=
  ∃ (c : Array Value) (t : TypeId) (fr : Nat × Nat), w.heap[blk]? = some (.cells c t fr) ∧ c.size = cs.length ∧ (∀ j, j < c.size → ¬ (fr.1 ≤ j ∧ j < fr.2)) ∧
      ∀ (j : Nat) (a : AV), cs[j]? = some a → ∃ u : Value, c[j]? = some u ∧ RepC w F a u
def ioAt (w : World) (F : Nat → Prop) (loc : Nat × Nat) : Inb → Prop
  | .box cs => BoxAt w F loc.1 cs
  | .arr sz n f => ArrAt w F loc true sz n f
def ioVal (loc : Nat × Nat) : Inb → Value
  | .box _ => .pointer (some ⟨loc.1, 0, none⟩)
  | .arr _ n _ => .slice (some ⟨loc.1, 0, none⟩) n.toNat loc.2

def OwnAt (rs : List AV) (j : Nat) : Prop := ∃ cl sz n f, rs[j]? = some (.own cl sz n f)
/-- what may be read behind a call -/
def FR (base : Nat) (w' : World) (F : Nat → Prop) (rs : List AV) (bl : Nat → Nat × Nat) (b : Nat) : Prop := (F b ∨ base ≤ b) ∧ b < w'.heap.size ∧ ∀ j, OwnAt rs j → (bl j).1 ≠ b

structure ResL (base : Nat) (w' : World) (F : Nat → Prop) (rs : List AV) (us : List Value) (bl : Nat → Nat × Nat) : Prop where
  len : us.length = rs.length
  own : ∀ j cl sz n f, rs[j]? = some (.own cl sz n f) → base ≤ (bl j).1 ∧ us[j]? = some (.slice (some ⟨(bl j).1, 0, none⟩) n.toNat (bl j).2) ∧ ArrAt w' (FR base w' F rs bl) (bl j) false sz n f ∧
    (cl = true → ∀ i : Int, 0 ≤ i → i < n → ∀ a, a ∈ f i → ∃ c, a = .val c)
  inj : ∀ j j', OwnAt rs j → OwnAt rs j' → (bl j).1 = (bl j').1 → j = j'
  cl : ∀ j a, rs[j]? = some a → ¬ OwnAt rs j → ∃ u, us[j]? = some u ∧ RepC w' (FR base w' F rs bl) a u

def comps : AV → List AV
  | .tup rs => rs
  | r => [r]
def shapeOf (r : AV) (v : Value) (us : List Value) : Prop :=
  match r with
  | .tup _ => v = .tuple us.toArray
  | _ => us = [v]

/-- The function may be called. -/
def Callable (P : Program) (f : Nat) : Prop := ∃ fn, P.funcs[f]? = some fn ∧ fn.body.isSome = true ∧ (fn.name == "runtime.NumGoroutine") = false

def Post (base : Nat) (w : World) (F : Nat → Prop) (X : Nat → Prop) (r : AV) (loc : Nat × Nat) (io' : Option Inb) (e : Ending) (w' : World) : Prop :=
  ∃ v us bl, e = .returned v ∧ shapeOf r v us ∧ BelowX base X w w' ∧ ResL base w' F (comps r) us bl ∧ (match io' with | none => True | some x => ioAt w' (FR base w' F (comps r) bl) loc x)

/-- A CONTRACT: called with values that read as 'as' (and an own block that reads as 'io'), the function returns a value that reads as 'r' (and that block reads as 'io''). -/
def Con (P : Program) (G : GI) (f : Nat) (io : Option Inb) (as : List AV) (r : AV) (io' : Option Inb) : Prop :=
  Callable P f ∧ ∀ (w : World) (F : Nat → Prop) (loc : Nat × Nat) (vs : List Value), G.ok w → (∀ b, F b → b < w.heap.size) → RepL w F as vs →
    (match io with
      | none => Calls P f vs.toArray w (Post w.heap.size w F (fun _ => False) r loc none)
      | some x => ioAt w F loc x → ¬ F loc.1 → G.N ≤ loc.1 → loc.1 < w.heap.size → ∀ y, io' = some y → Calls P f (ioVal loc x :: vs).toArray w (Post w.heap.size w F (fun b => b = loc.1) r loc (some y)))

end AB
end
section
namespace AB
open Go

theorem put_b (σ : St) (dst : Option Nat) (v : AV) : (σ.put dst v).b = σ.b := by cases dst <;> rfl
theorem put_s (σ : St) (dst : Option Nat) (v : AV) (b : List (Nat × Blk)) : ((⟨σ.s, b⟩ : St).put dst v) = ⟨(σ.put dst v).s, b⟩ := by cases dst <;> rfl

/-- what has no memory behind it reads the same anywhere -/
def Free (a : AV) : Prop := ∀ (w w' : World) (F F' : Nat → Prop) (u : Value), RepC w F a u → RepC w' F' a u
theorem free_val (v : Value) : Free (.val v) := fun w w' F F' u h => by
  have : u = v := by cases h; rfl
  subst this
  exact .val _
theorem cleanA_own {a : AV} (h : cleanA a = true) : (∃ v, a = .val v) ∨ ∃ sz n f, a = .own true sz n f := by
  cases a with
  | val v => exact .inl ⟨v, rfl⟩
  | own cl sz n f => simp only [cleanA] at h; subst h; exact .inr ⟨sz, n, f, rfl⟩
  | _ => simp [cleanA] at h
theorem free_agg {cs : List AV} (h : allB cleanA cs = true) : Free (.agg cs) := fun w w' F F' u hr => by
  rw [allB_eq, List.all_eq_true] at h
  cases hr with
  | agg cs vs us hl hc hr =>
    refine .agg cs vs us hl hc (fun j x hx => ?_)
    rcases cleanA_own (h x (List.mem_of_getElem? hx)) with ⟨v, rfl⟩ | ⟨sz, n, f, rfl⟩
    · exact free_val v _ _ _ _ _ (hr j _ hx)
    · have := hr j _ hx; cases this

def CleanL (rs : List AV) : Prop := ∀ (j : Nat) (a : AV), rs[j]? = some a → (¬ OwnAt rs j → Free a) ∧ ∀ cl sz n f, a = .own cl sz n f → cl = true

theorem clean_comps {r : AV} (h : cleanR r = true) : CleanL (comps r) := by
  have one : ∀ (rs : List AV) (j : Nat) (a : AV), rs[j]? = some a → cleanA a = true → (¬ OwnAt rs j → Free a) ∧ ∀ cl sz n f, a = .own cl sz n f → cl = true := by
    intro rs j a ha hc
    rcases cleanA_own hc with ⟨v, rfl⟩ | ⟨sz, n, f, rfl⟩
    · exact ⟨fun _ => free_val v, fun cl sz n f hc => by cases hc⟩
    · exact ⟨fun hn => absurd ⟨_, _, _, _, ha⟩ hn, fun cl sz n f hc => by simp only [AV.own.injEq] at hc; exact hc.1.symm⟩
  intro j a ha
  cases r with
  | tup rs =>
    simp only [cleanR, allB_eq, List.all_eq_true] at h
    have := h a (List.mem_of_getElem? ha)
    cases a with
    | agg cs => exact ⟨fun _ => free_agg (by rw [allB_eq]; exact this), fun cl sz n f hc => by cases hc⟩
    | _ => exact one _ j _ ha this
  | agg cs =>
    simp only [comps] at ha ⊢
    cases j with
    | zero => simp only [List.getElem?_cons_zero, Option.some.injEq] at ha; subst ha; exact ⟨fun _ => free_agg h, fun cl sz n f hc => by cases hc⟩
    | succ j => simp at ha
  | _ =>
    simp only [comps] at ha ⊢
    cases j with
    | zero => simp only [List.getElem?_cons_zero, Option.some.injEq] at ha; subst ha; exact one _ 0 _ rfl h
    | succ j => simp at ha

section
variable {cx : Cx} {β : Nat → Nat × Nat} {σ : St} {a : Act} {w : World}

/-- The result of a call becomes the caller's: new arrays are own blocks. -/
theorem Rel.adopt (h : Rel cx β σ a w) {F : Nat → Prop} {rs : List AV} {us : List Value} {bl : Nat → Nat × Nat} {w' : World} (hbel : BelowX w.heap.size (fun _ => False) w w')
    (hres : ResL w.heap.size w' F rs us bl) (idf : Nat → Nat) (hidf : ∀ j j', OwnAt rs j → OwnAt rs j' → idf j = idf j' → j = j') {u : List (Nat × Blk)} (hnd : (ids u).Nodup)
    (hu : ∀ e x, (e, x) ∈ u ↔ ∃ j cl sz n f, rs[j]? = some (.own cl sz n f) ∧ e = idf j ∧ x = .arr false false (Nat.succ (σ.B e).gen) sz n f)
    (hsub : (∀ b, F b → Fr cx w β σ.B b) ∨ CleanL rs) {dst : Option Nat} {x : AV} {v : Value}
    (hv : ∀ (F' : Nat → Prop) (β' : Nat → Nat × Nat) (B' : Nat → Blk), (∀ j a, rs[j]? = some a → ¬ OwnAt rs j → ∃ u, us[j]? = some u ∧ Rep w' F' β' B' a u) →
      (∀ j cl sz n f, rs[j]? = some (.own cl sz n f) → ∃ u, us[j]? = some u ∧ Rep w' F' β' B' (.sl (idf j) (Nat.succ (σ.B (idf j)).gen) n) u) → Rep w' F' β' B' x v) :
    ∃ β', Rel cx β' ((σ.put dst x).upd u) (a.put dst v) w' := by
  classical
  let jof : Nat → Nat := fun e => if hh : ∃ j, OwnAt rs j ∧ idf j = e then hh.choose else 0
  have hjof : ∀ j, OwnAt rs j → jof (idf j) = j := fun j hj => by
    have hh : ∃ j', OwnAt rs j' ∧ idf j' = idf j := ⟨j, hj, rfl⟩
    simp only [jof, dif_pos hh]
    exact hidf _ _ hh.choose_spec.1 hj hh.choose_spec.2
  let β' : Nat → Nat × Nat := fun e => if e ∈ ids u then bl (jof e) else β e
  have hmem : ∀ j cl sz n f, rs[j]? = some (.own cl sz n f) → (idf j, .arr false false (Nat.succ (σ.B (idf j)).gen) sz n f) ∈ u := fun j cl sz n f hj => (hu _ _).2 ⟨j, cl, sz, n, f, hj, rfl, rfl⟩
  have hβ1 : ∀ e, e ∉ ids u → β' e = β e := fun e he => if_neg he
  have hβ2 : ∀ j, OwnAt rs j → β' (idf j) = bl j := fun j hj => by
    obtain ⟨cl, sz, n, f, hj'⟩ := hj
    have : idf j ∈ ids u := mem_ids.2 ⟨_, hmem j cl sz n f hj'⟩
    simp only [β', if_pos this, hjof j ⟨cl, sz, n, f, hj'⟩]
  have hown : ∀ e, e ∈ ids u → ∃ j cl sz n f, rs[j]? = some (.own cl sz n f) ∧ e = idf j ∧ getB e (updL u σ.b) = .arr false false (Nat.succ (σ.B e).gen) sz n f := fun e he => by
    obtain ⟨y, hy⟩ := mem_ids.1 he
    obtain ⟨j, cl, sz, n, f, h1, h2, h3⟩ := (hu e y).1 hy
    exact ⟨j, cl, sz, n, f, h1, h2, by rw [getB_updL_mem u _ e y hnd hy, h3]⟩
  have hBne : ∀ e, e ∉ ids u → getB e (updL u σ.b) = σ.B e := fun e he => getB_updL_ne u _ e he
  have hk : Keep β σ.B β' (fun e => getB e (updL u σ.b)) := by
    refine ⟨fun e => ?_, fun e g fz fx sz n f hb hg => ?_, fun e g fz cs hb hg => ?_⟩
    · by_cases he : e ∈ ids u
      · obtain ⟨j, cl, sz, n, f, h1, h2, h3⟩ := hown e he
        simp only [h3]; exact Nat.le_succ _
      · simp only [hBne e he]; exact Nat.le_refl _
    · by_cases he : e ∈ ids u
      · obtain ⟨j, cl, sz', n', f', h1, h2, h3⟩ := hown e he
        simp only [h3, Blk.arr.injEq] at hb
        obtain ⟨-, -, rfl, -⟩ := hb
        omega
      · simp only [hBne e he] at hb
        exact ⟨fz, fx, n, f, hb, Int.le_refl _, fun _ => hβ1 e he⟩
    · by_cases he : e ∈ ids u
      · obtain ⟨j, cl, sz', n', f', h1, h2, h3⟩ := hown e he
        simp only [h3] at hb; cases hb
      · simp only [hBne e he] at hb
        exact ⟨fz, cs, hb, by rw [hβ1 e he]⟩
  -- what may be read
  have hFR : (∀ b, F b → Fr cx w β σ.B b) → ∀ b, FR w.heap.size w' F rs bl b → Fr cx w' β' (fun e => getB e (updL u σ.b)) b := by
    rintro hs b ⟨h1, h2, h3⟩
    refine ⟨?_, h2, fun e he => ?_⟩
    · rcases h1 with h1 | h1
      · exact (hs b h1).1
      · exact .inr (Nat.le_trans h.bas h1)
    · by_cases hed : e ∈ ids u
      · obtain ⟨j, cl, sz, n, f, g1, g2, g3⟩ := hown e hed
        rw [g2, hβ2 j ⟨cl, sz, n, f, g1⟩]
        exact h3 j ⟨cl, sz, n, f, g1⟩
      · rw [hβ1 e hed]
        have hle : live σ.B e := by rw [live_iff] at he ⊢; simp only [hBne e hed] at he; exact he
        rcases h1 with h1 | h1
        · exact (hs b h1).2.2 e hle
        · have hne : σ.B e ≠ .none := fun hc => by rw [live_iff, hc] at hle; exact hle
          have := (h.blk e).lt hne
          omega
  have hrep : ∀ j a', rs[j]? = some a' → ¬ OwnAt rs j → ∀ u', RepC w' (FR w.heap.size w' F rs bl) a' u' → RepC w' (Fr cx w' β' (fun e => getB e (updL u σ.b))) a' u' := by
    intro j a' ha hno u' hr
    rcases hsub with hs | hcl
    · exact hr.mono (hFR hs) (fun _ _ _ => rfl)
    · exact (hcl j a' ha).1 hno _ _ _ _ _ hr
  refine ⟨β', h.many hnd hβ1 (fun e y hy => ?_) (fun k hk _ => hbel.block k hk (fun hc => hc)) (fun e he => ?_) (fun e e' he he' heq => ?_) hk (fun hF hw e he => ?_) (fun hF hw => ?_) hbel.os hbel.tape hbel.output hbel.size⟩
  · obtain ⟨j, cl, sz, n, f, h1, h2, h3⟩ := (hu e y).1 hy
    rw [h3]; trivial
  · obtain ⟨j, cl, sz, n, f, h1, h2, h3⟩ := hown e he
    rw [h2, hβ2 j ⟨cl, sz, n, f, h1⟩]
    exact .inl (hres.own j cl sz n f h1).1
  · obtain ⟨j, cl, sz, n, f, h1, h2, h3⟩ := hown e he
    obtain ⟨j', cl', sz', n', f', h1', h2', h3'⟩ := hown e' he'
    rw [h2, hβ2 j ⟨cl, sz, n, f, h1⟩, h2', hβ2 j' ⟨cl', sz', n', f', h1'⟩] at heq
    rw [h2, h2', hres.inj j j' ⟨cl, sz, n, f, h1⟩ ⟨cl', sz', n', f', h1'⟩ heq]
  · obtain ⟨j, cl, sz, n, f, h1, h2, h3⟩ := hown e he
    obtain ⟨g1, g2, ⟨c, t, fr, len, k0, k1, k2, k3, k4, k5, k6, k7⟩, g4⟩ := hres.own j cl sz n f h1
    subst h2
    unfold BlkOK
    simp only [h3, hβ2 j ⟨cl, sz, n, f, h1⟩]
    refine ⟨c, t, fr, len, k0, k1, k2, k3, k4, k5, fun _ => k6 rfl, fun i hi => ⟨(k7 i hi).1, fun m y hy => ?_⟩⟩
    obtain ⟨z, hz, ho, hr⟩ := (k7 i hi).2 m y hy
    refine ⟨z, hz, ho, ?_⟩
    rcases hsub with hs | hcl
    · exact hr.mono (hFR hs) (fun _ _ _ => rfl)
    · have hclt := (hcl j _ h1).2 _ _ _ _ rfl
      obtain ⟨cv, hcv⟩ := g4 hclt (i : Int) (by omega) (by omega) y (List.mem_of_getElem? hy)
      subst hcv
      exact free_val cv _ _ _ _ _ hr
  · refine hv _ _ _ (fun j a' ha hno => ?_) (fun j cl sz n f hj => ?_)
    · obtain ⟨u', hu', hr⟩ := hres.cl j a' ha hno
      exact ⟨u', hu', .cl (hrep j a' ha hno u' hr)⟩
    · obtain ⟨g1, g2, g3, g4⟩ := hres.own j cl sz n f hj
      refine ⟨_, g2, ?_⟩
      have hB : getB (idf j) (updL u σ.b) = .arr false false (Nat.succ (σ.B (idf j)).gen) sz n f := getB_updL_mem u _ _ _ hnd (hmem j cl sz n f hj)
      refine .sl _ _ _ _ rfl (by simp only [hB]; exact Nat.le_refl _) (fun fz fx sz2 n0 f2 hb => ?_) (fun fz fx sz2 f2 hb => ?_)
      · simp only [hB, Blk.arr.injEq] at hb; rw [hb.2.2.2.2.1]; exact Int.le_refl _
      · rw [hβ2 j ⟨cl, sz, n, f, hj⟩]

def idT (d j : Nat) : Nat := d + 10000 * (j + 1)
theorem idT_zero (d : Nat) : idT d 0 = d + 10000 := by unfold idT; omega
theorem idT_succ (d j : Nat) : idT (d + 10000) j = idT d (j + 1) := by unfold idT; omega
theorem idT_inj (d j k : Nat) (h : idT d j = idT d k) : j = k := by unfold idT at h; omega
theorem idT_ne (d j : Nat) : d + 10000 ≠ idT (d + 10000) j := by unfold idT; omega
attribute [irreducible] idT

theorem instT_ok (B : Nat → Blk) : ∀ (rs : List AV) (d : Nat), (instT B d rs).1.length = rs.length ∧
    (∀ (j : Nat) (a : AV), rs[j]? = some a → (¬ OwnAt rs j → (instT B d rs).1[j]? = some a) ∧ ∀ cl sz n f, a = .own cl sz n f → (instT B d rs).1[j]? = some (.sl (idT d j) (Nat.succ (B (idT d j)).gen) n)) ∧
    (ids (instT B d rs).2).Nodup ∧ ∀ e x, (e, x) ∈ (instT B d rs).2 ↔ ∃ j cl sz n f, rs[j]? = some (.own cl sz n f) ∧ e = idT d j ∧ x = .arr false false (Nat.succ (B e).gen) sz n f
  | [], d => by simp [instT, ids]
  | a :: r, d => by
    obtain ⟨h1, h2, h3, h4⟩ := instT_ok B r (d + 10000)
    have hown : ∀ j, OwnAt (a :: r) (j + 1) ↔ OwnAt r j := fun j => by simp [OwnAt]
    have hdd : Nat.add d 10000 = d + 10000 := rfl
    cases a with
    | own cl sz n f =>
      simp only [instT, hdd]
      refine ⟨by simp [h1], fun j x hx => ?_, ?_, fun e x => ?_⟩
      · cases j with
        | zero =>
          simp only [List.getElem?_cons_zero, Option.some.injEq] at hx ⊢
          subst hx
          refine ⟨fun hn => absurd ⟨_, _, _, _, rfl⟩ hn, fun cl' sz' n' f' he => ?_⟩
          simp only [AV.own.injEq] at he
          rw [he.2.2.1, idT_zero]
        | succ j =>
          simp only [List.getElem?_cons_succ] at hx ⊢
          rw [hown j, ← idT_succ]
          exact h2 j x hx
      · simp only [ids, List.nodup_cons]
        refine ⟨fun hc => ?_, h3⟩
        obtain ⟨x, hx⟩ := mem_ids.1 hc
        obtain ⟨j, _, _, _, _, _, hj, _⟩ := (h4 _ _).1 hx
        exact idT_ne d j hj
      · rw [List.mem_cons, h4]
        constructor
        · rintro (hh | ⟨j, cl', sz', n', f', g1, g2, g3⟩)
          · simp only [Prod.mk.injEq] at hh
            obtain ⟨rfl, rfl⟩ := hh
            exact ⟨0, cl, sz, n, f, rfl, (idT_zero d).symm, rfl⟩
          · exact ⟨j + 1, cl', sz', n', f', by simpa using g1, g2.trans (idT_succ d j), g3⟩
        · rintro ⟨j, cl', sz', n', f', g1, g2, g3⟩
          cases j with
          | zero =>
            simp only [List.getElem?_cons_zero, Option.some.injEq, AV.own.injEq] at g1
            obtain ⟨-, rfl, rfl, rfl⟩ := g1
            left
            rw [idT_zero] at g2
            subst g2
            rw [g3]
          | succ j => exact .inr ⟨j, cl', sz', n', f', by simpa using g1, g2.trans (idT_succ d j).symm, g3⟩
    | _ =>
      simp only [instT, hdd]
      refine ⟨by simp [h1], fun j x hx => ?_, h3, fun e x => ?_⟩
      · cases j with
        | zero =>
          simp only [List.getElem?_cons_zero, Option.some.injEq] at hx ⊢
          subst hx
          exact ⟨fun _ => rfl, fun cl' sz' n' f' he => by cases he⟩
        | succ j =>
          simp only [List.getElem?_cons_succ] at hx ⊢
          rw [hown j, ← idT_succ]
          exact h2 j x hx
      · rw [h4]
        constructor
        · rintro ⟨j, cl', sz', n', f', g1, g2, g3⟩
          exact ⟨j + 1, cl', sz', n', f', by simpa using g1, g2.trans (idT_succ d j), g3⟩
        · rintro ⟨j, cl', sz', n', f', g1, g2, g3⟩
          cases j with
          | zero => simp at g1
          | succ j => exact ⟨j, cl', sz', n', f', by simpa using g1, g2.trans (idT_succ d j).symm, g3⟩

/-- the result and the own blocks of a call, whichever the result -/
theorem instR_ok (B : Nat → Blk) (d : Nat) (r : AV) : ∃ idf : Nat → Nat, (∀ j j', OwnAt (comps r) j → OwnAt (comps r) j' → idf j = idf j' → j = j') ∧ (ids (instR B d r).2).Nodup ∧
    (∀ e x, (e, x) ∈ (instR B d r).2 ↔ ∃ j cl sz n f, (comps r)[j]? = some (.own cl sz n f) ∧ e = idf j ∧ x = .arr false false (Nat.succ (B e).gen) sz n f) ∧
    ∀ (w' : World) (F' : Nat → Prop) (β' : Nat → Nat × Nat) (B' : Nat → Blk) (us : List Value) (v : Value), shapeOf r v us → us.length = (comps r).length → (∀ j a, (comps r)[j]? = some a → ¬ OwnAt (comps r) j → ∃ u, us[j]? = some u ∧ Rep w' F' β' B' a u) →
      (∀ j cl sz n f, (comps r)[j]? = some (.own cl sz n f) → ∃ u, us[j]? = some u ∧ Rep w' F' β' B' (.sl (idf j) (Nat.succ (B (idf j)).gen) n) u) → Rep w' F' β' B' (instR B d r).1 v := by
  have one : ∀ (r : AV), (∀ cl sz n f, r ≠ .own cl sz n f) → (comps r = [r]) → (instR B d r = (r, [])) → (∀ v us, shapeOf r v us → us = [v]) → _ := fun r hr hc hi hsh =>
    (⟨fun _ => d, fun j j' hj => by
        obtain ⟨cl, sz, n, f, hj⟩ := hj
        rw [hc] at hj
        cases j with
        | zero => simp only [List.getElem?_cons_zero, Option.some.injEq] at hj; exact absurd hj (hr cl sz n f)
        | succ j => simp at hj, by rw [hi]; simp [ids], fun e x => by
        rw [hi, hc]
        constructor
        · intro h; cases h
        · rintro ⟨j, cl, sz, n, f, hj, _⟩
          cases j with
          | zero => simp only [List.getElem?_cons_zero, Option.some.injEq] at hj; exact absurd hj (hr cl sz n f)
          | succ j => simp at hj, fun w' F' β' B' us v hs _ h1 _ => by
        obtain rfl := hsh v us hs
        rw [hi]
        obtain ⟨u, hu, hrep⟩ := h1 0 r (by rw [hc]; rfl) (fun ⟨cl, sz, n, f, hj⟩ => by rw [hc] at hj; simp only [List.getElem?_cons_zero, Option.some.injEq] at hj; exact hr _ _ _ _ hj)
        simp only [List.getElem?_cons_zero, Option.some.injEq] at hu
        rw [hu]; exact hrep⟩ : ∃ idf : Nat → Nat, (∀ j j', OwnAt (comps r) j → OwnAt (comps r) j' → idf j = idf j' → j = j') ∧ (ids (instR B d r).2).Nodup ∧
    (∀ e x, (e, x) ∈ (instR B d r).2 ↔ ∃ j cl sz n f, (comps r)[j]? = some (.own cl sz n f) ∧ e = idf j ∧ x = .arr false false (Nat.succ (B e).gen) sz n f) ∧
    ∀ (w' : World) (F' : Nat → Prop) (β' : Nat → Nat × Nat) (B' : Nat → Blk) (us : List Value) (v : Value), shapeOf r v us → us.length = (comps r).length → (∀ j a, (comps r)[j]? = some a → ¬ OwnAt (comps r) j → ∃ u, us[j]? = some u ∧ Rep w' F' β' B' a u) →
      (∀ j cl sz n f, (comps r)[j]? = some (.own cl sz n f) → ∃ u, us[j]? = some u ∧ Rep w' F' β' B' (.sl (idf j) (Nat.succ (B (idf j)).gen) n) u) → Rep w' F' β' B' (instR B d r).1 v)
  cases r with
  | own cl sz n f =>
    refine ⟨fun _ => d, fun j j' hj hj' _ => ?_, by simp [instR, ids], fun e x => ?_, fun w' F' β' B' us v hs _ _ h2 => ?_⟩
    · obtain ⟨_, _, _, _, hj⟩ := hj
      obtain ⟨_, _, _, _, hj'⟩ := hj'
      cases j with
      | succ j => simp [comps] at hj
      | zero =>
        cases j' with
        | succ j => simp [comps] at hj'
        | zero => rfl
    · simp only [instR, comps, List.mem_singleton, Prod.mk.injEq]
      constructor
      · rintro ⟨rfl, rfl⟩; exact ⟨0, cl, sz, n, f, rfl, rfl, rfl⟩
      · rintro ⟨j, cl', sz', n', f', hj, rfl, rfl⟩
        cases j with
        | zero =>
          simp only [List.getElem?_cons_zero, Option.some.injEq, AV.own.injEq] at hj
          obtain ⟨-, rfl, rfl, rfl⟩ := hj
          exact ⟨rfl, rfl⟩
        | succ j => simp at hj
    · simp only [shapeOf] at hs
      subst hs
      obtain ⟨u, hu, hr⟩ := h2 0 cl sz n f rfl
      simp only [List.getElem?_cons_zero, Option.some.injEq] at hu
      subst hu
      exact hr
  | tup rs =>
    obtain ⟨h1, h2, h3, h4⟩ := instT_ok B rs d
    refine ⟨idT d, fun j j' _ _ he => idT_inj d j j' he, h3, h4, fun w' F' β' B' us v hs hl g1 g2 => ?_⟩
    simp only [shapeOf] at hs
    subst hs
    simp only [comps] at hl g1 g2
    show Rep w' F' β' B' (.tup (instT B d rs).1) _
    refine .tup _ _ (fun j => us.getD j undef) (by simp [h1, hl]) (fun j x hx => ?_) (fun j x hx => ?_)
    · have hj : j < us.length := by rw [hl, ← h1]; exact (List.getElem?_eq_some_iff.1 hx).1
      simp [hj]
    · have hj : j < rs.length := by rw [← h1]; exact (List.getElem?_eq_some_iff.1 hx).1
      have ha := List.getElem?_eq_getElem hj
      obtain ⟨q1, q2⟩ := h2 j _ ha
      by_cases ho : OwnAt rs j
      · obtain ⟨cl, sz, n, f, hj2⟩ := ho
        rw [hj2] at ha
        have := q2 cl sz n f (Option.some.inj ha).symm
        rw [this, Option.some.injEq] at hx
        subst hx
        obtain ⟨u, hu, hr⟩ := g2 j cl sz n f hj2
        simpa [hu] using hr
      · rw [q1 ho, Option.some.injEq] at hx
        subst hx
        obtain ⟨u, hu, hr⟩ := g1 j _ ha ho
        simpa [hu] using hr
  | _ => exact one _ (fun _ _ _ _ h => by cases h) rfl rfl (fun v us h => h)

end
end AB
end
section
namespace AB
open Go

structure GOK (G : GI) (cx : Cx) : Prop where
  ok : G.ok cx.w0
  le : G.N ≤ cx.base
  x : ∀ b, cx.X b → G.N ≤ b
  k : ∀ x v, cx.K = some (x, v) → (∃ n, x = .sl ioId 1 n) ∨ ∃ o, x = .pb ioId 1 o

section
variable {cx : Cx} {β : Nat → Nat × Nat} {σ : St} {a : Act} {w : World}

theorem GOK.now {G : GI} (hG : GOK G cx) (h : Rel cx β σ a w) : G.ok w :=
  ⟨Nat.le_trans hG.le h.bas, fun b hb => by
    rw [h.bel.block b (Nat.lt_of_lt_of_le hb hG.le) (fun hx => absurd (hG.x b hx) (by omega))]
    exact hG.ok.2 b hb⟩

theorem callee_ok (h : Rel cx β σ a w) {c : Callee} {g : Nat} {caps : List AV} (hc : calleeF σ c = some (g, caps)) :
    ∃ (f : Operand) (vs : Array Value) (us : Nat → Value), c = .value f ∧ a.eval f = .func (.func g) #[] vs ∧ vs.size = caps.length ∧ (∀ j x, caps[j]? = some x → vs[j]? = some (us j)) ∧ (∀ j x, caps[j]? = some x → Rep w (Fr cx w β σ.B) β σ.B x (us j)) := by
  cases c with
  | value f =>
    cases f with
    | func g' =>
      simp only [calleeF, Option.some.injEq, Prod.mk.injEq] at hc
      obtain ⟨rfl, rfl⟩ := hc
      exact ⟨_, #[], fun _ => undef, rfl, rfl, rfl, by simp, by simp⟩
    | tmp t =>
      simp only [calleeF] at hc
      split at hc
      · rename_i g' cs hs
        simp only [Option.some.injEq, Prod.mk.injEq] at hc
        obtain ⟨rfl, rfl⟩ := hc
        have hev := h.ev (.tmp t)
        rw [show σ.ev (.tmp t) = getS t σ.s from rfl, hs] at hev
        obtain ⟨vs, us, h1, h2, h3, h4⟩ := hev.clo_inv
        exact ⟨_, vs, us, rfl, h1, h2, h3, h4⟩
      · cases hc
    | _ => cases hc
  | _ => cases hc

theorem call_exec {P : Program} {o : Oper} {c : Call} (ho : o.op = .call c) {f : Operand} (hc : c.callee = .value f) {g : Nat} {vs : Array Value} (hf : a.eval f = .func (.func g) #[] vs) (hcall : Callable P g) :
    (execOp a.eval o).run P w = .ok (.enter g (c.args.map a.eval ++ vs)) w := by
  obtain ⟨fn, h1, h2, h3⟩ := hcall
  have h2' : fn.body ≠ none := by intro hb; simp [hb] at h2
  have h3' : ¬ fn.name = "runtime.NumGoroutine" := by simpa using h3
  unfold execOp
  simp [ho, resolve, hc, hf, Deferred.ofValue, invoke, callFunc, h1, h2', h3']

theorem isCall_op {op : Op} {c : Call} (h : isCall op = some c) : op = .call c := by
  unfold isCall at h
  split at h
  · split at h
    · simp only [Option.some.injEq] at h; rw [h]
    · cases h
  · cases h

/-- the arguments, as they stand -/
theorem args_ok (h : Rel cx β σ a w) (args : Array Operand) {caps : List AV} {vs : Array Value} {us : Nat → Value} (hl : vs.size = caps.length) (hc : ∀ j x, caps[j]? = some x → vs[j]? = some (us j)) (hr : ∀ j x, caps[j]? = some x → Rep w (Fr cx w β σ.B) β σ.B x (us j)) :
    (args.map a.eval ++ vs).toList.length = (appL (mapL σ.ev args.toList) caps).length ∧ ∀ (j : Nat) (x : AV), (appL (mapL σ.ev args.toList) caps)[j]? = some x → (args.map a.eval ++ vs).toList[j]? = some ((args.map a.eval ++ vs).toList.getD j undef) ∧ Rep w (Fr cx w β σ.B) β σ.B x ((args.map a.eval ++ vs).toList.getD j undef) := by
  rw [appL_eq, mapL_eq]
  refine ⟨by simp [hl], fun j x hx => ?_⟩
  by_cases hj : j < args.size
  · rw [List.getElem?_append_left (by simpa using hj)] at hx
    simp only [List.getElem?_map, Array.getElem?_toList, Option.map_eq_some_iff] at hx
    obtain ⟨y, hy, rfl⟩ := hx
    have : (args.map a.eval ++ vs).toList[j]? = some (a.eval y) := by
      rw [Array.toList_append, List.getElem?_append_left (by simpa using hj)]; simp [hy]
    rw [List.getD_eq_getElem?_getD, this]
    exact ⟨rfl, h.ev y⟩
  · rw [List.getElem?_append_right (by simp; omega)] at hx
    simp only [List.length_map, Array.length_toList] at hx
    have : (args.map a.eval ++ vs).toList[j]? = some (us (j - args.size)) := by
      rw [Array.toList_append, List.getElem?_append_right (by simp; omega)]; simp [hc _ x hx]
    rw [List.getD_eq_getElem?_getD, this]
    exact ⟨rfl, hr _ x hx⟩

/-- The caller's state behind a call. -/
theorem Rel.after (h : Rel cx β σ a w) {l : List Nat} (hl : ∀ d, d ∈ l → d ≠ ioId ∧ σ.B d ≠ .none) {r : AV} {v : Value} {us : List Value} {bl : Nat → Nat × Nat} {w' : World} (hbel : BelowX w.heap.size (fun _ => False) w w')
    (hres : ResL w.heap.size w' (F1 cx w β σ.B l) (comps r) us bl) (hsh : shapeOf r v us) (dst : Option Nat) (d : Nat) :
    ∃ β', Rel cx β' ((σ.put dst (afterC σ.B d l r).1).upd (afterC σ.B d l r).2) (a.put dst v) w' := by
  obtain ⟨idf, i1, i2, i3, i4⟩ := instR_ok σ.B d r
  cases hcl : cleanR r with
  | true =>
    have e : afterC σ.B d l r = instR σ.B d r := by
      unfold afterC; cases hq : instR σ.B d r with | mk v u => simp only [hcl]
    rw [e]
    exact h.adopt hbel hres idf i1 i2 i3 (.inr (clean_comps hcl)) (fun F' β' B' q1 q2 => i4 _ _ _ _ _ _ hsh hres.len q1 q2)
  | false =>
    have e : afterC σ.B d l r = ((instR σ.B d r).1, appL (freezes σ.B l) (instR σ.B d r).2) := by
      unfold afterC; cases hq : instR σ.B d r with | mk v u => simp only [hcl]
    rw [e]
    obtain ⟨q1, q2, q3, q4⟩ := Rel.freezeL (B0 := σ.B) l h hl (fun d => .inl rfl)
    have hgen : ∀ e, ((⟨σ.s, updL (freezes σ.B l) σ.b⟩ : St).B e).gen = (σ.B e).gen := fun e => by
      show (getB e _).gen = _
      rw [q4 e]
      by_cases he : e ∈ l
      · rw [if_pos he, Blk.freeze_gen]
      · rw [if_neg he]
    obtain ⟨β', hR⟩ := q1.adopt (dst := dst) (x := (instR σ.B d r).1) hbel hres idf i1 i2 (fun e x => by rw [i3]; simp only [hgen]) (.inl (fun b hb => by
        rcases hb with hb | ⟨e, he, rfl⟩
        · exact q2 b hb
        · exact q3 e he)) (fun F' β' B' g1 g2 => i4 _ _ _ _ _ _ hsh hres.len g1 (fun j cl sz n f hj => by have := g2 j cl sz n f hj; rwa [hgen] at this))
    refine ⟨β', ?_⟩
    rw [St.upd_eq] at hR
    rw [St.upd_eq]
    simp only [appL_eq, updL_append]
    cases dst <;> exact hR

theorem noIo_ok {l : List Nat} (h : noIo l = true) : ∀ d, d ∈ l → d ≠ ioId := by
  intro d hd hc
  subst hc
  simp [noIo, memN_eq, hd] at h

/-- A call by contract. -/
theorem call_pure_wp {G : GI} (hG : GOK G cx) (h : Rel cx β σ a w) {o : Oper} {c : Call} (ho : isCall o.op = some c) {g : Nat} {caps : List AV} (hcal : calleeF σ c.callee = some (g, caps)) {pre : Prop} {as : List AV} {l : List Nat}
    (hv : views (viewA σ.B) (appL (mapL σ.ev c.args.toList) caps) = .ok pre as l) (hp : pre) (hio : noIo l = true) {r : AV} (hC : Con cx.P G g none as r none) {K : Act → World → Prop} {Q : Exit → Act → World → Prop}
    (hK : ∀ w' β' v, Rel cx β' ((σ.put o.dst (afterC σ.B (dstN o) l r).1).upd (afterC σ.B (dstN o) l r).2) (a.put o.dst v) w' → K (a.put o.dst v) w') : o.wp cx.P a w K Q := by
  obtain ⟨f, vs, us, h1, h2, h3, h4, h5⟩ := callee_ok h hcal
  obtain ⟨hcall, hC⟩ := hC
  obtain ⟨g1, g2⟩ := args_ok h c.args h3 h4 h5
  obtain ⟨q1, q2, q3⟩ := views_sound (viewA_sound h) _ _ _ _ _ hv hp (fun j x hx => (g2 j x hx).2)
  have hx := call_exec (w := w) (isCall_op ho) h1 h2 hcall
  unfold Oper.wp
  rw [hx, Oper.upon_enter]
  have hF : ∀ b, F1 cx w β σ.B l b → b < w.heap.size := by
    rintro b (hb | ⟨d, hd, rfl⟩)
    · exact hb.2.1
    · exact (h.blk d).lt (q2 d hd)
  have hrep : RepL w (F1 cx w β σ.B l) as (c.args.map a.eval ++ vs).toList := by
    refine ⟨by rw [q1]; exact g1, fun j x hx => ?_⟩
    have hj : j < (appL (mapL σ.ev c.args.toList) caps).length := by rw [← q1]; exact (List.getElem?_eq_some_iff.1 hx).1
    exact ⟨_, (g2 j _ (List.getElem?_eq_getElem hj)).1, q3 j x hx⟩
  have hcalls := hC w _ (0, 0) _ (hG.now h) hF hrep
  simp only [Array.toArray_toList] at hcalls
  refine hcalls.mono ?_
  rintro e w' ⟨v, us', bl, rfl, hsh, hbel, hres, -⟩
  obtain ⟨β', hR⟩ := h.after (fun d hd => ⟨noIo_ok hio d hd, q2 d hd⟩) hbel hres hsh o.dst (dstN o)
  exact hK w' β' v hR

end
end AB
end
section
namespace AB
open Go

def sameIO : Inb → Inb → Prop
  | .box cs, .box cs' => cs'.length = cs.length
  | .arr sz n _, .arr sz' n' _ => sz' = sz ∧ n' = n
  | _, _ => False

theorem hideB_eq (B : Nat → Blk) (b e : Nat) : hideB B b e = if e = b then .none else B e := by
  unfold hideB
  by_cases h : e = b
  · subst h; simp [eqN_refl]
  · rw [beq_ne h, if_neg h]

section
variable {cx : Cx} {β : Nat → Nat × Nat} {σ : St} {a : Act} {w : World}

def ioOf (B : Nat → Blk) (b : Nat) : Inb → Prop
  | .box cs => ∃ g cs0, B b = .box false g cs0 ∧ cs0.length = cs.length
  | .arr sz n _ => ∃ fx g f0, B b = .arr false fx g sz n f0

/-- .. with a block of the caller's that was written -/
theorem Rel.adoptIo (h : Rel cx β σ a w) {F : Nat → Prop} {rs : List AV} {us : List Value} {bl : Nat → Nat × Nat} {w' : World} {b : Nat} {io' : Inb} (hio : ioOf σ.B b io') (hbel : BelowX w.heap.size (fun k => k = (β b).1) w w')
    (hres : ResL w.heap.size w' F rs us bl) (hat : ioAt w' (FR w.heap.size w' F rs bl) (β b) io') (idf : Nat → Nat) (hidf : ∀ j j', OwnAt rs j → OwnAt rs j' → idf j = idf j' → j = j') {u : List (Nat × Blk)} (hnd : (ids u).Nodup) (hbu : b ∉ ids u)
    (hu : ∀ e x, (e, x) ∈ u ↔ ∃ j cl sz n f, rs[j]? = some (.own cl sz n f) ∧ e = idf j ∧ x = .arr false false (Nat.succ (σ.B e).gen) sz n f)
    (hs : ∀ b, F b → Fr cx w β σ.B b) {dst : Option Nat} {x : AV} {v : Value}
    (hv : ∀ (F' : Nat → Prop) (β' : Nat → Nat × Nat) (B' : Nat → Blk), (∀ j a, rs[j]? = some a → ¬ OwnAt rs j → ∃ u, us[j]? = some u ∧ Rep w' F' β' B' a u) →
      (∀ j cl sz n f, rs[j]? = some (.own cl sz n f) → ∃ u, us[j]? = some u ∧ Rep w' F' β' B' (.sl (idf j) (Nat.succ (σ.B (idf j)).gen) n) u) → Rep w' F' β' B' x v) :
    ∃ β', Rel cx β' ((σ.put dst x).upd (u ++ [(b, ioBlk σ.B b io')])) (a.put dst v) w' := by
  classical
  have hlb : live σ.B b ∧ isLive (ioBlk σ.B b io') ∧ (ioBlk σ.B b io').gen = (σ.B b).gen := by
    rw [live_iff]
    cases io' with
    | box cs => obtain ⟨g, cs0, h1, _⟩ := hio; simp [ioBlk, h1, isLive, Blk.gen]
    | arr sz n f => obtain ⟨fx, g, f0, h1⟩ := hio; simp [ioBlk, h1, isLive, Blk.gen]
  have hbn : σ.B b ≠ .none := fun hc => by have := hlb.1; rw [live_iff, hc] at this; exact this
  have hblt := (h.blk b).lt hbn
  let jof : Nat → Nat := fun e => if hh : ∃ j, OwnAt rs j ∧ idf j = e then hh.choose else 0
  have hjof : ∀ j, OwnAt rs j → jof (idf j) = j := fun j hj => by
    have hh : ∃ j', OwnAt rs j' ∧ idf j' = idf j := ⟨j, hj, rfl⟩
    simp only [jof, dif_pos hh]
    exact hidf _ _ hh.choose_spec.1 hj hh.choose_spec.2
  let β' : Nat → Nat × Nat := fun e => if e ∈ ids u then bl (jof e) else β e
  let u' := u ++ [(b, ioBlk σ.B b io')]
  have hids : ids u' = ids u ++ [b] := by simp [u', ids_eq]
  have hnd' : (ids u').Nodup := by
    rw [hids, List.nodup_append]
    exact ⟨hnd, by simp, fun x hx y hy hxy => by simp only [List.mem_singleton] at hy; subst hy; subst hxy; exact hbu hx⟩
  have hmu : ∀ e, e ∈ ids u' ↔ e ∈ ids u ∨ e = b := fun e => by rw [hids]; simp
  have hmem : ∀ j cl sz n f, rs[j]? = some (.own cl sz n f) → (idf j, .arr false false (Nat.succ (σ.B (idf j)).gen) sz n f) ∈ u := fun j cl sz n f hj => (hu _ _).2 ⟨j, cl, sz, n, f, hj, rfl, rfl⟩
  have hβb : β' b = β b := if_neg hbu
  have hβ1 : ∀ e, e ∉ ids u' → β' e = β e := fun e he => if_neg (fun hc => he ((hmu e).2 (.inl hc)))
  have hβ2 : ∀ j, OwnAt rs j → β' (idf j) = bl j := fun j hj => by
    obtain ⟨cl, sz, n, f, hj'⟩ := hj
    have : idf j ∈ ids u := mem_ids.2 ⟨_, hmem j cl sz n f hj'⟩
    simp only [β', if_pos this, hjof j ⟨cl, sz, n, f, hj'⟩]
  have hBb : getB b (updL u' σ.b) = ioBlk σ.B b io' := getB_updL_mem u' _ b _ hnd' (by simp [u'])
  have hown : ∀ e, e ∈ ids u → ∃ j cl sz n f, rs[j]? = some (.own cl sz n f) ∧ e = idf j ∧ getB e (updL u' σ.b) = .arr false false (Nat.succ (σ.B e).gen) sz n f := fun e he => by
    obtain ⟨y, hy⟩ := mem_ids.1 he
    obtain ⟨j, cl, sz, n, f, h1, h2, h3⟩ := (hu e y).1 hy
    exact ⟨j, cl, sz, n, f, h1, h2, by rw [getB_updL_mem u' _ e y hnd' (by simp [u', hy]), h3]⟩
  have hBne : ∀ e, e ∉ ids u' → getB e (updL u' σ.b) = σ.B e := fun e he => getB_updL_ne u' _ e he
  have hk : Keep β σ.B β' (fun e => getB e (updL u' σ.b)) := by
    refine ⟨fun e => ?_, fun e g fz fx sz n f hb hg => ?_, fun e g fz cs hb hg => ?_⟩
    · by_cases he : e ∈ ids u'
      · rcases (hmu e).1 he with he | he
        · obtain ⟨j, cl, sz, n, f, h1, h2, h3⟩ := hown e he
          simp only [h3]; exact Nat.le_succ _
        · subst he; simp only [hBb, hlb.2.2]; exact Nat.le_refl _
      · simp only [hBne e he]; exact Nat.le_refl _
    · by_cases he : e ∈ ids u'
      · rcases (hmu e).1 he with he | he
        · obtain ⟨j, cl, sz', n', f', h1, h2, h3⟩ := hown e he
          simp only [h3, Blk.arr.injEq] at hb
          obtain ⟨-, -, rfl, -⟩ := hb
          omega
        · subst he
          simp only [hBb] at hb
          cases io' with
          | box cs => obtain ⟨g', cs0, h1, _⟩ := hio; simp [ioBlk, h1] at hb
          | arr sz' n' f' =>
            obtain ⟨fx', g', f0, h1⟩ := hio
            simp only [ioBlk, h1, Blk.arr.injEq] at hb
            obtain ⟨-, -, rfl, rfl, rfl, -⟩ := hb
            exact ⟨_, _, _, _, h1, Int.le_refl _, fun _ => hβb⟩
      · simp only [hBne e he] at hb
        exact ⟨fz, fx, n, f, hb, Int.le_refl _, fun _ => hβ1 e he⟩
    · by_cases he : e ∈ ids u'
      · rcases (hmu e).1 he with he | he
        · obtain ⟨j, cl, sz', n', f', h1, h2, h3⟩ := hown e he
          simp only [h3] at hb; cases hb
        · subst he
          simp only [hBb] at hb
          cases io' with
          | box cs' =>
            obtain ⟨g', cs0, h1, _⟩ := hio
            simp only [ioBlk, h1, Blk.box.injEq] at hb
            obtain ⟨-, rfl, -⟩ := hb
            exact ⟨_, _, h1, by rw [hβb]⟩
          | arr sz' n' f' => obtain ⟨fx', g', f0, h1⟩ := hio; simp [ioBlk, h1] at hb
      · simp only [hBne e he] at hb
        exact ⟨fz, cs, hb, by rw [hβ1 e he]⟩
  have hFR : ∀ b', FR w.heap.size w' F rs bl b' → Fr cx w' β' (fun e => getB e (updL u' σ.b)) b' := by
    rintro b' ⟨h1, h2, h3⟩
    refine ⟨?_, h2, fun e he => ?_⟩
    · rcases h1 with h1 | h1
      · exact (hs b' h1).1
      · exact .inr (Nat.le_trans h.bas h1)
    · by_cases hed : e ∈ ids u
      · obtain ⟨j, cl, sz, n, f, g1, g2, g3⟩ := hown e hed
        rw [g2, hβ2 j ⟨cl, sz, n, f, g1⟩]
        exact h3 j ⟨cl, sz, n, f, g1⟩
      · have hle : live σ.B e := by
          by_cases heb : e = b
          · rw [heb]; exact hlb.1
          · rw [live_iff] at he ⊢; simp only [hBne e (fun hc => ((hmu e).1 hc).elim hed heb)] at he; exact he
        rw [show β' e = β e from if_neg hed]
        rcases h1 with h1 | h1
        · exact (hs b' h1).2.2 e hle
        · have hne : σ.B e ≠ .none := fun hc => by rw [live_iff, hc] at hle; exact hle
          have := (h.blk e).lt hne
          omega
  refine ⟨β', h.many hnd' hβ1 (fun e y hy => ?_) (fun k hk hx => hbel.block k hk (fun hc => hx b ((hmu b).2 (.inr rfl)) hlb.1 hc)) (fun e he => ?_) (fun e e' he he' heq => ?_) hk (fun hF hw e he => ?_) (fun hF hw => ?_) hbel.os hbel.tape hbel.output hbel.size⟩
  · rcases List.mem_append.1 hy with hy | hy
    · obtain ⟨j, cl, sz, n, f, h1, h2, h3⟩ := (hu e y).1 hy
      rw [h3]; trivial
    · simp only [List.mem_singleton, Prod.mk.injEq] at hy
      rw [hy.2]; exact hlb.2.1
  · rcases (hmu e).1 he with he | he
    · obtain ⟨j, cl, sz, n, f, h1, h2, h3⟩ := hown e he
      rw [h2, hβ2 j ⟨cl, sz, n, f, h1⟩]
      exact .inl (hres.own j cl sz n f h1).1
    · subst he; exact .inr ⟨hlb.1, by rw [hβb]⟩
  · have hnew : ∀ e, e ∈ ids u → w.heap.size ≤ (β' e).1 := fun e he => by
      obtain ⟨j, cl, sz, n, f, h1, h2, h3⟩ := hown e he
      rw [h2, hβ2 j ⟨cl, sz, n, f, h1⟩]
      exact (hres.own j cl sz n f h1).1
    rcases (hmu e).1 he with hm | hm
    · rcases (hmu e').1 he' with hm' | hm'
      · have he := hm
        have he' := hm'
        obtain ⟨j, cl, sz, n, f, h1, h2, h3⟩ := hown e he
        obtain ⟨j', cl', sz', n', f', h1', h2', h3'⟩ := hown e' he'
        rw [h2, hβ2 j ⟨cl, sz, n, f, h1⟩, h2', hβ2 j' ⟨cl', sz', n', f', h1'⟩] at heq
        rw [h2, h2', hres.inj j j' ⟨cl, sz, n, f, h1⟩ ⟨cl', sz', n', f', h1'⟩ heq]
      · have := hnew e hm; rw [heq, hm', hβb] at this; omega
    · rcases (hmu e').1 he' with hm' | hm'
      · have := hnew e' hm'; rw [← heq, hm, hβb] at this; omega
      · rw [hm, hm']
  · rcases (hmu e).1 he with he | he
    · obtain ⟨j, cl, sz, n, f, h1, h2, h3⟩ := hown e he
      obtain ⟨g1, g2, ⟨c, t, fr, len, k0, k1, k2, k3, k4, k5, k6, k7⟩, g4⟩ := hres.own j cl sz n f h1
      subst h2
      unfold BlkOK
      simp only [h3, hβ2 j ⟨cl, sz, n, f, h1⟩]
      refine ⟨c, t, fr, len, k0, k1, k2, k3, k4, k5, fun _ => k6 rfl, fun i hi => ⟨(k7 i hi).1, fun m y hy => ?_⟩⟩
      obtain ⟨z, hz, ho, hr⟩ := (k7 i hi).2 m y hy
      exact ⟨z, hz, ho, hr.mono hFR (fun _ _ _ => rfl)⟩
    · subst he
      unfold BlkOK
      simp only [hBb]
      cases io' with
      | box cs =>
        obtain ⟨g', cs0, h1, h2⟩ := hio
        obtain ⟨c, t, fr, k1, k2, k3, k4⟩ := hat
        simp only [ioBlk, h1, hβb]
        exact ⟨c, t, fr, k1, k2, k3, fun j y hy => let ⟨z, hz, hr⟩ := k4 j y hy; ⟨z, hz, .cl (hr.mono hFR (fun _ _ _ => rfl))⟩⟩
      | arr sz n f =>
        obtain ⟨fx, g', f0, h1⟩ := hio
        obtain ⟨c, t, fr, len, k0, k1, k2, k3, k4, k5, k6, k7⟩ := hat
        simp only [ioBlk, h1, hβb]
        refine ⟨c, t, fr, len, k0, k1, k2, k3, k4, k5, (fun hc => by cases hc), fun i hi => ⟨(k7 i hi).1, fun m y hy => ?_⟩⟩
        obtain ⟨z, hz, ho, hr⟩ := (k7 i hi).2 m y hy
        exact ⟨z, hz, ho, hr.mono hFR (fun _ _ _ => rfl)⟩
  · refine hv _ _ _ (fun j a' ha hno => ?_) (fun j cl sz n f hj => ?_)
    · obtain ⟨u', hu', hr⟩ := hres.cl j a' ha hno
      exact ⟨u', hu', .cl (hr.mono hFR (fun _ _ _ => rfl))⟩
    · obtain ⟨g1, g2, g3, g4⟩ := hres.own j cl sz n f hj
      refine ⟨_, g2, ?_⟩
      have hB : getB (idf j) (updL u' σ.b) = .arr false false (Nat.succ (σ.B (idf j)).gen) sz n f := getB_updL_mem u' _ _ _ hnd' (by simp [u', hmem j cl sz n f hj])
      refine .sl _ _ _ _ rfl (by simp only [u', hB]; exact Nat.le_refl _) (fun fz fx sz2 n0 f2 hb => ?_) (fun fz fx sz2 f2 hb => ?_)
      · simp only [u', hB, Blk.arr.injEq] at hb; rw [hb.2.2.2.2.1]; exact Int.le_refl _
      · rw [hβ2 j ⟨cl, sz, n, f, hj⟩]

/-- what comes in to be written, as it stands -/
theorem ioF_ok (h : Rel cx β σ a w) {l : List AV} {pre : Prop} {b : Nat} {io : Inb} {l1 : List Nat} (hf : ioF σ.B l = .ok pre b io l1) (hp : pre) :
    (∃ y r, l = y :: r ∧ ∀ u, Rep w (Fr cx w β σ.B) β σ.B y u → u = ioVal (β b) io) ∧ ioAt w (F1 cx w β σ.B l1) (β b) io ∧ ioOf σ.B b io ∧ ∀ d, d ∈ l1 → σ.B d ≠ .none := by
  unfold ioF at hf
  split at hf
  · rename_i d g r
    split at hf
    · rename_i g' cs hB
      split at hf
      · rename_i p l' i hg hvs
        obtain rfl := eqN_eq hg
        simp only [IOR.ok.injEq] at hf
        obtain ⟨rfl, rfl, rfl, rfl⟩ := hf
        have hbk := h.blk d
        unfold BlkOK at hbk
        rw [hB] at hbk
        obtain ⟨c, t, fr, k1, k2, k3, k4⟩ := hbk
        obtain ⟨g1, g2, g3⟩ := views_sound (view0_sound h) cs (fun j => (c[j]?).getD undef) _ _ _ hvs hp (fun j x hx => by
            obtain ⟨y, hy, hr⟩ := k4 j x hx
            rw [hy]; exact hr)
        refine ⟨⟨_, _, rfl, fun u hu => hu.pb_inv.2 _ _ hB⟩, ⟨c, t, fr, k1, by rw [k2, g1], k3, fun j x hx => ?_⟩, ⟨_, _, hB, g1.symm⟩, g2⟩
        have hj : j < c.size := by rw [k2, ← g1]; exact (List.getElem?_eq_some_iff.1 hx).1
        have := g3 j x hx
        rw [Array.getElem?_eq_getElem hj] at this ⊢
        exact ⟨_, rfl, this⟩
      · cases hf
    · cases hf
  · rename_i d g n r
    split at hf
    · rename_i fx g' sz n' f hB
      split at hf
      · rename_i hg
        obtain rfl := eqN_eq hg
        simp only [IOR.ok.injEq] at hf
        obtain ⟨rfl, rfl, rfl, rfl⟩ := hf
        obtain rfl := hp
        have hbk := h.blk d
        unfold BlkOK at hbk
        rw [hB] at hbk
        obtain ⟨c, t, fr, len, k0, k1, k2, k3, k4, k5, k6, k7⟩ := hbk
        refine ⟨⟨_, _, rfl, fun u hu => hu.sl_inv.2.2 _ _ _ _ hB⟩, ⟨c, t, fr, len, k0, k1, k2, k3, k4, k5, (fun hc => by cases hc), fun i hi => ⟨(k7 i hi).1, fun j x hx => ?_⟩⟩, ⟨_, _, _, hB⟩, by simp⟩
        obtain ⟨z, hz, ho, hr⟩ := (k7 i hi).2 j x hx
        exact ⟨z, hz, ho, hr.mono (fun _ h => .inl h) (fun _ _ _ => rfl)⟩
      · cases hf
    · cases hf
  · cases hf

theorem F1.many (b : Nat) {l m : List Nat} (h : ∀ d, d ∈ l → d ∈ m) (hb : F1 cx w β σ.B l b) : F1 cx w β σ.B m b := F1.mono h b hb

theorem ioAt.mono {F F' : Nat → Prop} {loc : Nat × Nat} {io : Inb} (hF : ∀ b, F b → F' b) (h : ioAt w F loc io) : ioAt w F' loc io := by
  cases io with
  | box cs =>
    obtain ⟨c, t, fr, k1, k2, k3, k4⟩ := h
    exact ⟨c, t, fr, k1, k2, k3, fun j y hy => let ⟨z, hz, hr⟩ := k4 j y hy; ⟨z, hz, hr.mono hF (fun _ _ _ => rfl)⟩⟩
  | arr sz n f =>
    obtain ⟨c, t, fr, len, k0, k1, k2, k3, k4, k5, k6, k7⟩ := h
    exact ⟨c, t, fr, len, k0, k1, k2, k3, k4, k5, k6, fun i hi => ⟨(k7 i hi).1, fun j y hy => let ⟨z, hz, ho, hr⟩ := (k7 i hi).2 j y hy; ⟨z, hz, ho, hr.mono hF (fun _ _ _ => rfl)⟩⟩⟩

theorem tlL_eq {α : Type} (l : List α) : tlL l = l.tail := by cases l <;> rfl

/-- A call by contract that writes an own block. -/
theorem call_io_wp {G : GI} (hG : GOK G cx) (h : Rel cx β σ a w) {o : Oper} {c : Call} (ho : isCall o.op = some c) {g : Nat} {caps : List AV} (hcal : calleeF σ c.callee = some (g, caps)) {pre1 pre : Prop} {as : List AV} {b : Nat} {io : Inb} {l1 l : List Nat}
    (hf : ioF σ.B (mapL σ.ev c.args.toList) = .ok pre1 b io l1) (hp1 : pre1)
    (hv : views (viewA σ.B) (appL (tlL (mapL σ.ev c.args.toList)) caps) = .ok pre as l) (hp : pre) (hio : noIo (appL l1 l) = true) (hb : memN b (appL l1 l) = false) {r : AV} {io' : Inb} (hsame : sameIO io io') (hC : Con cx.P G g (some io) as r (some io'))
    (hbu : memN b (ids (afterD σ.B (dstN o) b (appL l1 l) r).2) = false) {K : Act → World → Prop} {Q : Exit → Act → World → Prop}
    (hK : ∀ w' β' v, Rel cx β' (((σ.put o.dst (afterD σ.B (dstN o) b (appL l1 l) r).1).upd (afterD σ.B (dstN o) b (appL l1 l) r).2).upd [(b, ioBlk σ.B b io')]) (a.put o.dst v) w' → K (a.put o.dst v) w') : o.wp cx.P a w K Q := by
  obtain ⟨f, vs, us, h1, h2, h3, h4, h5⟩ := callee_ok h hcal
  obtain ⟨hcall, hC⟩ := hC
  obtain ⟨g1, g2⟩ := args_ok h c.args h3 h4 h5
  obtain ⟨⟨y, rest, hy, hyv⟩, hat, hof, hl1⟩ := ioF_ok h hf hp1
  rw [appL_eq] at hio hb
  rw [hy, appL_eq] at g1 g2
  rw [hy, tlL_eq, List.tail_cons, appL_eq] at hv
  -- the arguments
  obtain ⟨vl, hvl⟩ : ∃ vl, (c.args.map a.eval ++ vs).toList = vl := ⟨_, rfl⟩
  rw [hvl] at g1 g2
  cases vl with
  | nil => simp at g1
  | cons v0 vr =>
  have hv0 : v0 = ioVal (β b) io := hyv _ (by simpa using (g2 0 y rfl).2)
  obtain ⟨q1, q2, q3⟩ := views_sound (viewA_sound h) (rest ++ caps) (fun j => (v0 :: vr).getD (j + 1) undef) _ _ _ hv hp (fun j x hx => (g2 (j + 1) x (by simpa using hx)).2)
  have hx := call_exec (w := w) (isCall_op ho) h1 h2 hcall
  unfold Oper.wp
  rw [hx, Oper.upon_enter]
  have hall : ∀ d, d ∈ l1 ++ l → d ≠ ioId ∧ σ.B d ≠ .none := fun d hd => ⟨noIo_ok hio d hd, (List.mem_append.1 hd).elim (hl1 d) (q2 d)⟩
  obtain ⟨r1, r2, r3, r4⟩ := Rel.freezeL (B0 := σ.B) (l1 ++ l) h hall (fun d => .inl rfl)
  have hbm : b ∉ l1 ++ l := fun hc => by rw [memN_eq] at hb; simp [hc] at hb
  have hBb : (⟨σ.s, updL (freezes σ.B (l1 ++ l)) σ.b⟩ : St).B b = σ.B b := by show getB b _ = _; rw [r4 b, if_neg hbm]
  have hlb : live σ.B b := by
    rw [live_iff]
    cases io with
    | box cs => obtain ⟨g, cs0, h1, _⟩ := hof; simp [h1, isLive]
    | arr sz n f => obtain ⟨fx, g, f0, h1⟩ := hof; simp [h1, isLive]
  have hF1 : ∀ b', F1 cx w β σ.B (l1 ++ l) b' → Fr cx w β (fun e => getB e (updL (freezes σ.B (l1 ++ l)) σ.b)) b' := by
    rintro b' (hb' | ⟨d, hd, rfl⟩)
    · exact r2 b' hb'
    · exact r3 d hd
  have hF : ∀ b, F1 cx w β σ.B (l1 ++ l) b → b < w.heap.size := fun b' hb' => (hF1 b' hb').2.1
  have hrep : RepL w (F1 cx w β σ.B (l1 ++ l)) as vr := by
    refine ⟨by rw [q1]; simpa using g1, fun j x hx => ?_⟩
    have hj : j < (rest ++ caps).length := by rw [← q1]; exact (List.getElem?_eq_some_iff.1 hx).1
    refine ⟨(v0 :: vr).getD (j + 1) undef, by simpa using (g2 (j + 1) _ (by rw [List.cons_append, List.getElem?_cons_succ]; exact List.getElem?_eq_getElem hj)).1, (q3 j x hx).mono (F1.mono (fun d hd => List.mem_append.2 (.inr hd))) (fun _ _ _ => rfl)⟩
  have hlive' : live (fun e => getB e (updL (freezes σ.B (l1 ++ l)) σ.b)) b := by
    rw [live_iff] at hlb ⊢
    have : getB b (updL (freezes σ.B (l1 ++ l)) σ.b) = σ.B b := hBb
    simp only [this]; exact hlb
  have hnF : ¬ F1 cx w β σ.B (l1 ++ l) (β b).1 := fun hc => (hF1 _ hc).2.2 b hlive' rfl
  have hN : G.N ≤ (β b).1 := by
    rcases h.own b hlb with ho | ⟨_, ho⟩
    · exact Nat.le_trans hG.le ho
    · exact hG.x _ ho
  have hbn : σ.B b ≠ .none := fun hc => by have := hlb; rw [live_iff, hc] at this; exact this
  have hcalls := hC w _ (β b) _ (hG.now h) hF hrep (hat.mono (F1.mono (fun d hd => List.mem_append.2 (.inl hd)))) hnF hN ((h.blk b).lt hbn) io' rfl
  have hargs : (c.args.map a.eval ++ vs) = (ioVal (β b) io :: vr).toArray := by rw [← hv0, ← hvl]
  rw [hargs]
  refine hcalls.mono ?_
  rintro e w' ⟨v, us', bl, rfl, hsh, hbel, hres, hio'⟩
  obtain ⟨idf, i1, i2, i3, i4⟩ := instR_ok (hideB σ.B b) (dstN o) r
  unfold afterD at hbu hK
  cases hq : instR (hideB σ.B b) (dstN o) r with
  | mk x u =>
  rw [hq] at hbu hK i2 i3 i4
  simp only [appL_eq] at hbu hK i2 i3 i4
  have hbu' : b ∉ ids u := fun hc => by
    rw [memN_eq] at hbu
    have : b ∈ ids (freezes σ.B (l1 ++ l) ++ u) := by rw [ids_eq, List.map_append, ← ids_eq u]; simp [hc]
    simp [this] at hbu
  have hof' : ioOf (⟨σ.s, updL (freezes σ.B (l1 ++ l)) σ.b⟩ : St).B b io' := by
    cases io with
    | box cs =>
      cases io' with
      | box cs' => obtain ⟨g, cs0, k1, k2⟩ := hof; exact ⟨g, cs0, by rw [hBb, k1], by rw [k2]; exact hsame.symm⟩
      | arr => exact absurd hsame (fun h => h)
    | arr sz n f =>
      cases io' with
      | box cs' => exact absurd hsame (fun h => h)
      | arr sz' n' f' => obtain ⟨fx, g, f0, k1⟩ := hof; obtain ⟨rfl, rfl⟩ := hsame; exact ⟨fx, g, f0, by rw [hBb, k1]⟩
  have hgen : ∀ e, e ∈ ids u → ((⟨σ.s, updL (freezes σ.B (l1 ++ l)) σ.b⟩ : St).B e).gen = (hideB σ.B b e).gen := fun e heu => by
    have hne : e ≠ b := fun hc => hbu' (hc ▸ heu)
    show (getB e _).gen = _
    rw [r4 e, hideB_eq, if_neg hne]
    by_cases he : e ∈ l1 ++ l
    · rw [if_pos he, Blk.freeze_gen]
    · rw [if_neg he]
  have hidu : ∀ j, OwnAt (comps r) j → idf j ∈ ids u := fun j ⟨cl, sz, n, f, hj⟩ => mem_ids.2 ⟨_, (i3 _ _).2 ⟨j, cl, sz, n, f, hj, rfl, rfl⟩⟩
  obtain ⟨β', hR⟩ := r1.adoptIo (b := b) (io' := io') (dst := o.dst) (x := x) (v := v) hof' hbel hres hio' idf i1 i2 hbu' (fun e y => by
      rw [i3]
      constructor
      · rintro ⟨j, cl, sz, n, f, k1, k2, k3⟩
        exact ⟨j, cl, sz, n, f, k1, k2, by rw [k3, hgen e (by rw [k2]; exact hidu j ⟨cl, sz, n, f, k1⟩)]⟩
      · rintro ⟨j, cl, sz, n, f, k1, k2, k3⟩
        exact ⟨j, cl, sz, n, f, k1, k2, by rw [k3, hgen e (by rw [k2]; exact hidu j ⟨cl, sz, n, f, k1⟩)]⟩)
    hF1 (fun F' β' B' k1 k2 => i4 _ _ _ _ _ _ hsh hres.len k1 (fun j cl sz n f hj => by
      have := k2 j cl sz n f hj
      rwa [hgen _ (hidu j ⟨cl, sz, n, f, hj⟩)] at this))
  refine hK w' β' v ?_
  have hblk : ioBlk (⟨σ.s, updL (freezes σ.B (l1 ++ l)) σ.b⟩ : St).B b io' = ioBlk σ.B b io' := by
    cases io' <;> simp only [ioBlk, hBb]
  rw [hblk, St.upd_eq, updL_append] at hR
  rw [St.upd_eq, St.upd_eq, updL_append]
  cases hd : o.dst <;> rw [hd] at hR <;> exact hR

end
end AB
end
section
namespace AB
open Go

section
variable {L : Leaf} {T : Nat → Option TI} {B B' : Nat → Blk} {pre : Prop} {v : AV} {upd : List (Nat × Blk)} {rd : List Nat}

theorem loc_blk {x : AV} {cs : List AV} {o : Nat} (h : locF L B x = .at cs o pre rd) (hB : ∀ e, e ∈ rd → B' e = B e) : locF L B' x = .at cs o pre rd := by
  cases x <;> simp only [locF, reduceCtorEq] at h ⊢
  case fp => exact h
  case pb d g o' =>
    have : B' d = B d := hB d (by
      split at h
      · split at h
        · simp only [Loc.at.injEq] at h; obtain ⟨-, -, -, rfl⟩ := h; simp
        · cases h
      · cases h)
    rw [this]; exact h
  case pe d g n i o' =>
    have : B' d = B d := hB d (by
      split at h
      · split at h
        · simp only [Loc.at.injEq] at h; obtain ⟨-, -, -, rfl⟩ := h; simp
        · cases h
      · cases h)
    rw [this]; exact h

theorem load_blk {t : Nat} {x : AV} (h : loadF L T B t x = .ok pre v upd rd) (hB : ∀ e, e ∈ rd → B' e = B e) : loadF L T B' t x = .ok pre v upd rd := by
  unfold loadF at h ⊢
  cases hl : locF L B x with
  | bad => rw [hl] at h; simp at h
  | «at» cs o p r =>
    rw [hl] at h
    have : r = rd := by
      repeat' split at h
      all_goals first | cases h; done | (simp only [Loc.at.injEq, SR.ok.injEq] at *; rename_i h1 _ _; first | (obtain ⟨-, -, -, rfl⟩ := h1; exact h.2.2.2) | skip)
      all_goals simp_all
    subst this
    rw [loc_blk hl hB]
    exact h

theorem store_blk {t : Nat} {a x : AV} (h : storeF L T B t a x = .ok pre v upd rd) (hB : ∀ e, e ∈ rd → B' e = B e) : storeF L T B' t a x = .ok pre v upd rd := by
  unfold storeF at h ⊢
  split at h
  · split at h
    · cases h
    · cases a <;> simp only [reduceCtorEq] at h ⊢
      case pb d g o =>
        have : B' d = B d := hB d (by
          repeat' split at h
          all_goals first | cases h; done | (simp only [SR.ok.injEq] at h; rw [← h.2.2.2]; simp))
        rw [this]; exact h
      case pe d g n i o =>
        have : B' d = B d := hB d (by
          repeat' split at h
          all_goals first | cases h; done | (simp only [SR.ok.injEq] at h; rw [← h.2.2.2]; simp))
        rw [this]; exact h
  · cases h

theorem fieldAddr_blk {t fld : Nat} {x : AV} (h : fieldAddrF L T B t fld x = .ok pre v upd rd) (hB : ∀ e, e ∈ rd → B' e = B e) : fieldAddrF L T B' t fld x = .ok pre v upd rd := by
  unfold fieldAddrF at h ⊢
  split at h
  · split at h
    · cases h
    · split at h
      · rename_i hl
        simp only [SR.ok.injEq] at h
        obtain ⟨rfl, rfl, rfl, rfl⟩ := h
        simp only [loc_blk hl hB]
      · cases h
  · cases h

theorem indexAddr_blk {t : Nat} {x i : AV} (h : indexAddrF L T B t x i = .ok pre v upd rd) (hB : ∀ e, e ∈ rd → B' e = B e) : indexAddrF L T B' t x i = .ok pre v upd rd := by
  unfold indexAddrF at h ⊢
  split at h
  · cases h
  · split at h
    · split at h
      · cases h
      · split at h
        · split at h
          · exact h
          · rename_i d g n
            have : B' d = B d := hB d (by
              repeat' split at h
              all_goals first | cases h; done | (simp only [SR.ok.injEq] at h; rw [← h.2.2.2]; simp))
            simp only [this]; exact h
          · cases h
        · cases h
    · split at h
      · cases h
      · split at h
        · split at h
          · split at h
            · rename_i hl
              simp only [SR.ok.injEq] at h
              obtain ⟨rfl, rfl, rfl, rfl⟩ := h
              simp only [loc_blk hl hB, *]
            · cases h
          · cases h
        · cases h
    · cases h

theorem slice_blk {t : Nat} {x : AV} {lo hi mx : Option AV} (h : sliceF L T B t x lo hi mx = .ok pre v upd rd) (hB : ∀ e, e ∈ rd → B' e = B e) : sliceF L T B' t x lo hi mx = .ok pre v upd rd := by
  unfold sliceF at h ⊢
  split at h
  · split at h
    · exact h
    · exact h
    · rename_i d g n _
      have : B' d = B d := hB d (by
        repeat' split at h
        all_goals first | cases h; done | (simp only [SR.ok.injEq] at h; rw [← h.2.2.2]; simp))
      simp only [this]; exact h
    · cases h
  · cases h

theorem view0_blk {x x' : AV} {l : List Nat} (h : view0 B x = .ok pre x' l) (hB : ∀ e, e ∈ l → B' e = B e) : view0 B' x = .ok pre x' l := by
  unfold view0 at h ⊢
  split at h
  · cases h
  · cases h
  · exact h
  · exact h
  · exact h
  · rename_i d g n
    have : B' d = B d := hB d (by
      repeat' split at h
      all_goals first | cases h; done | (simp only [VR.ok.injEq] at h; rw [← h.2.2]; simp))
    simp only [this]; exact h
  · cases h

theorem views_blk {f g : AV → VR} : ∀ (xs : List AV) {pre : Prop} {xs' : List AV} {l : List Nat}, (∀ x pre x' l, f x = .ok pre x' l → (∀ e, e ∈ l → B' e = B e) → g x = .ok pre x' l) → views f xs = .ok pre xs' l → (∀ e, e ∈ l → B' e = B e) → views g xs = .ok pre xs' l
  | [], _, _, _, _, h, _ => h
  | x :: r, pre, xs', l, hf, h, hB => by
    unfold views at h ⊢
    split at h
    · rename_i p a' i q m j h1 h2
      simp only [VRs.ok.injEq] at h
      obtain ⟨rfl, rfl, rfl⟩ := h
      rw [appL_eq] at hB
      rw [hf x _ _ _ h1 (fun e he => hB e (by simp [he])), views_blk r hf h2 (fun e he => hB e (by simp [he]))]
    · cases h

theorem freezes_blk : ∀ (l : List Nat), (∀ e, e ∈ l → B' e = B e) → freezes B' l = freezes B l
  | [], _ => rfl
  | d :: r, h => by simp only [freezes]; rw [h d (by simp), freezes_blk r (fun e he => h e (by simp [he]))]

theorem buildSlice_blk {d t len : Nat} {ps : List (Nat × AV)} (h : buildSliceF L T B d t len ps = .ok pre v upd rd) (hB : ∀ e, e ∈ rd → B' e = B e)   : buildSliceF L T B' d t len ps = .ok pre v upd rd := by
  unfold buildSliceF at h ⊢
  split at h
  · cases h
  · split at h
    · split at h
      · rename_i q cs' l hv
        split at h
        · simp only [SR.ok.injEq] at h
          obtain ⟨rfl, rfl, rfl, rfl⟩ := h
          have hv' : views (view0 B') _ = .ok q cs' l := views_blk _ (fun x p y m hx hm => view0_blk hx hm) hv (fun e he => hB e (by simp [he]))
          simp only [hv', *, hB d (by simp), freezes_blk l (fun e he => hB e (by simp [he]))]
        · cases h
      · cases h
    · cases h

theorem makeSlice_blk {d t : Nat} {n c : AV} (h : makeSliceF L T B d t n c = .ok pre v upd rd) (hB : ∀ e, e ∈ rd → B' e = B e) : makeSliceF L T B' d t n c = .ok pre v upd rd := by
  unfold makeSliceF at h ⊢
  have : B' d = B d := hB d (by
    repeat' split at h
    all_goals first | cases h; done | (simp only [SR.ok.injEq] at h; rw [← h.2.2.2]; simp))
  rw [this]; exact h

theorem len_blk {t : Nat} {x : AV} (h : lenF L T B t x = .ok pre v upd rd) (hB : ∀ e, e ∈ rd → B' e = B e) : lenF L T B' t x = .ok pre v upd rd := by
  unfold lenF at h ⊢
  split at h
  · cases h
  · split at h
    · exact h
    · split at h
      · exact h
      · rename_i d g n
        have : B' d = B d := hB d (by
          repeat' split at h
          all_goals first | cases h; done | (simp only [SR.ok.injEq] at h; rw [← h.2.2.2]; simp))
        simp only [this]; exact h
      · exact h
      · cases h
    · cases h

theorem conv_blk {d s t : Nat} {x : AV} (h : convF L T B d s t x = .ok pre v upd rd) (hB : ∀ e, e ∈ rd → B' e = B e) : convF L T B' d s t x = .ok pre v upd rd := by
  unfold convF at h ⊢
  split at h
  · split at h
    · exact h
    · exact h
    · split at h
      · split at h
        · have : B' d = B d := hB d (by simp only [SR.ok.injEq] at h; rw [← h.2.2.2]; simp)
          simp only [this]; exact h
        · cases h
      · cases h
    · split at h
      · split at h
        · split at h
          · exact h
          · rename_i e g n
            have : B' e = B e := hB e (by
              repeat' split at h
              all_goals first | cases h; done | (simp only [SR.ok.injEq] at h; rw [← h.2.2.2]; simp))
            simp only [this]; exact h
          · cases h
        · cases h
      · cases h
    · cases h
  · cases h

theorem app_src {y : AV} {ei : TI} {m : Int} {h : Int → List AV} {p : Prop} {r : List Nat} (hz : appSrc L B ei y = some (m, h, p, r)) (hr : ∀ e, e ∈ r → B' e = B e) : appSrc L B' ei y = some (m, h, p, r) := by
  unfold appSrc at hz ⊢
  split at hz
  · exact hz
  · rename_i e g m
    have : B' e = B e := hr e (by
      repeat' split at hz
      all_goals first | cases hz; done | (simp only [Option.some.injEq, Prod.mk.injEq] at hz; rw [← hz.2.2.2]; simp))
    simp only [this]; exact hz
  · cases hz

theorem append_blk {d t : Nat} {x y : AV} (h : appendF L T B d t x y = .ok pre v upd rd) (hB : ∀ e, e ∈ rd → B' e = B e) : appendF L T B' d t x y = .ok pre v upd rd := by
  unfold appendF at h ⊢
  split at h
  · cases h
  · rename_i ty ei hse
    split at h
    · cases h
    · rename_i m hh p r hy
      split at h
      · have hr := h
        simp only [SR.ok.injEq] at hr
        have hd : B' d = B d := hB d (by rw [← hr.2.2.2]; simp)
        rw [app_src hy (fun e he => hB e (by rw [← hr.2.2.2]; simp [he]))]
        simp only [hd]; exact h
      · rename_i e g n
        have hmem : e ∈ rd ∧ ∀ k, k ∈ r → k ∈ rd := by
          repeat' split at h
          all_goals first | cases h; done | (simp only [SR.ok.injEq] at h; rw [← h.2.2.2]; exact ⟨by simp, fun k hk => by simp [hk]⟩)
        have he : B' e = B e := hB e hmem.1
        rw [app_src hy (fun e he => hB e (hmem.2 e he))]
        simp only [he]; exact h
      · cases h

/-- what an operation does rests on the own blocks that it says it reads -/
theorem step_blk {ρ : Operand → AV} {d : Nat} {op : Op} (h : stepF L T ρ B d op = .ok pre v upd rd) (hB : ∀ e, e ∈ rd → B' e = B e) : stepF L T ρ B' d op = .ok pre v upd rd := by
  cases op <;> simp only [stepF, reduceCtorEq] at h ⊢
  case move => exact h
  case assign => exact h
  case pick => exact h
  case alloc t =>
    have : B' d = B d := hB d (by
      repeat' split at h
      all_goals first | cases h; done | (simp only [SR.ok.injEq] at h; rw [← h.2.2.2]; simp))
    rw [this]; exact h
  case box t x =>
    have : B' d = B d := hB d (by
      repeat' split at h
      all_goals first | cases h; done | (simp only [SR.ok.injEq] at h; rw [← h.2.2.2]; simp))
    rw [this]; exact h
  case build => exact h
  case buildSlice => exact buildSlice_blk h hB
  case load => exact load_blk h hB
  case store => exact store_blk h hB
  case nilCheck x =>
    split at h
    · exact h
    · split at h
      · rename_i hl
        have := h
        simp only [SR.ok.injEq] at this
        obtain ⟨-, -, -, rfl⟩ := this
        simp only [loc_blk hl hB]; exact h
      · cases h
  case binOp => exact h
  case unOp => exact h
  case convert => exact conv_blk h hB
  case makeFunc => exact h
  case makeSlice => exact makeSlice_blk h hB
  case slice => exact slice_blk h hB
  case fieldAddr => exact fieldAddr_blk h hB
  case field => exact h
  case indexAddr => exact indexAddr_blk h hB
  case index => exact h
  case extract => exact h
  case call c =>
    split at h
    · split at h
      · exact len_blk h hB
      · cases h
    · split at h
      · split at h
        · exact append_blk h hB
        · cases h
      · cases h
    · exact h
    · exact h
    · cases h

theorem view1_blk {x x' : AV} {l : List Nat} (h : view1 B x = .ok pre x' l) (hB : ∀ e, e ∈ l → B' e = B e) : view1 B' x = .ok pre x' l := by
  unfold view1 at h ⊢
  split at h
  · rename_i d g o
    split at h
    · rename_i hb
      split at h
      · rename_i hg
        split at h
        · rename_i hv
          simp only [VR.ok.injEq] at h
          obtain ⟨rfl, rfl, rfl⟩ := h
          have : B' d = B d := hB d (by simp)
          have hv2 := views_blk (B := B) (B' := B') (g := view0 B') _ (fun x pre x' l h1 h2 => view0_blk h1 h2) hv (fun e he => hB e (by simp [he]))
          simp only [this, hb, hg, hv2]
        · cases h
      · cases h
    · cases h
  · exact view0_blk h hB

theorem viewA_blk {x x' : AV} {l : List Nat} (h : viewA B x = .ok pre x' l) (hB : ∀ e, e ∈ l → B' e = B e) : viewA B' x = .ok pre x' l := by
  unfold viewA at h ⊢
  split at h
  · split at h
    · rename_i hv
      simp only [VR.ok.injEq] at h
      obtain ⟨rfl, rfl, rfl⟩ := h
      have hv2 := views_blk (B := B) (B' := B') (g := view0 B') _ (fun x pre x' l h1 h2 => view0_blk h1 h2) hv hB
      simp only [hv2]
    · cases h
  · split at h
    · rename_i hv
      simp only [VR.ok.injEq] at h
      obtain ⟨rfl, rfl, rfl⟩ := h
      have hv2 := views_blk (B := B) (B' := B') (g := view1 B') _ (fun x pre x' l h1 h2 => view1_blk h1 h2) hv hB
      simp only [hv2]
    · cases h
  · exact view1_blk h hB

theorem ioF_blk {xs : List AV} {b : Nat} {io : Inb} {l : List Nat} (h : ioF B xs = .ok pre b io l) (hb : B' b = B b) (hB : ∀ e, e ∈ l → B' e = B e) : ioF B' xs = .ok pre b io l := by
  unfold ioF at h ⊢
  split at h
  · rename_i d g r
    have hd : d = b := by
      repeat' split at h
      all_goals first | cases h; done | (simp only [IOR.ok.injEq] at h; exact h.2.1)
    subst hd
    simp only [hb]
    split at h
    · split at h
      · rename_i hg hv
        simp only [IOR.ok.injEq] at h
        obtain ⟨rfl, -, rfl, rfl⟩ := h
        have hv2 := views_blk (B := B) (B' := B') (g := view0 B') _ (fun x pre x' l h1 h2 => view0_blk h1 h2) hv hB
        simp only [hg, hv2]
      · cases h
    · cases h
  · rename_i d g n r
    have hd : d = b := by
      repeat' split at h
      all_goals first | cases h; done | (simp only [IOR.ok.injEq] at h; exact h.2.1)
    subst hd
    simp only [hb]; exact h
  · cases h

theorem instT_blk : ∀ (rs : List AV) (d : Nat), (∀ e, e ∈ ids (instT B d rs).2 → B' e = B e) → instT B' d rs = instT B d rs
  | [], _, _ => rfl
  | a :: r, d, h => by
    unfold instT at h ⊢
    have ih : instT B' (Nat.add d 10000) r = instT B (Nat.add d 10000) r := instT_blk r _ (fun e he => h e (by
      cases hq : instT B (Nat.add d 10000) r with
      | mk l u =>
      rw [hq] at he
      simp only
      split
      · simp only [ids, List.mem_cons]; exact .inr he
      · exact he))
    rw [ih]
    cases hq : instT B (Nat.add d 10000) r with
    | mk l u =>
    rw [hq] at h
    simp only at h ⊢
    cases a with
    | own cl sz n f =>
      simp only at h ⊢
      rw [h (Nat.add d 10000) (by simp [ids])]
    | _ => rfl

theorem instR_blk {d : Nat} {r : AV} (h : ∀ e, e ∈ ids (instR B d r).2 → B' e = B e) : instR B' d r = instR B d r := by
  cases r with
  | own cl sz n f =>
    simp only [instR] at h ⊢
    rw [h d (by simp [ids])]
  | tup rs =>
    simp only [instR] at h ⊢
    rw [instT_blk rs d (fun e he => h e (by cases hq : instT B d rs; rw [hq] at he; exact he))]
  | _ => rfl

theorem afterC_blk {d : Nat} {l : List Nat} {r : AV} (h : ∀ e, e ∈ ids (afterC B d l r).2 → B' e = B e) (hl : ∀ e, e ∈ l → B' e = B e) : afterC B' d l r = afterC B d l r := by
  unfold afterC at h ⊢
  have : instR B' d r = instR B d r := instR_blk (fun e he => h e (by
    cases hq : instR B d r with
    | mk v u =>
    rw [hq] at he
    simp only
    split
    · exact he
    · rw [appL_eq, ids_eq, List.map_append, ← ids_eq u]; exact List.mem_append.2 (.inr he)))
  rw [this, freezes_blk l hl]

theorem afterD_blk {d b : Nat} {l : List Nat} {r : AV} (h : ∀ e, e ∈ ids (afterD B d b l r).2 → B' e = B e) (hl : ∀ e, e ∈ l → B' e = B e) : afterD B' d b l r = afterD B d b l r := by
  unfold afterD at h ⊢
  have : instR (hideB B' b) d r = instR (hideB B b) d r := instR_blk (fun e he => by
    rw [hideB_eq, hideB_eq]
    split
    · rfl
    · exact h e (by
        cases hq : instR (hideB B b) d r with
        | mk v u =>
        rw [hq] at he
        simp only
        rw [appL_eq, ids_eq, List.map_append, ← ids_eq u]; exact List.mem_append.2 (.inr he)))
  rw [this, freezes_blk l hl]

theorem ioBlk_blk {b : Nat} {io : Inb} (h : B' b = B b) : ioBlk B' b io = ioBlk B b io := by
  cases io <;> simp only [ioBlk, h]

end
end AB
end
section
namespace AB
open Go

/-- the one says no less than the other -/
inductive Sub : AV → AV → Prop
  | refl (a : AV) : Sub a a
  | any (a : AV) : Sub a .any
  | nil (f : Int → List AV) : Sub (.val (.slice none 0 0)) (.lst 0 f)
  | lst (n : Int) (f f' : Int → List AV) (hl : ∀ i : Int, 0 ≤ i → i < n → (f i).length = (f' i).length) (h : ∀ i : Int, 0 ≤ i → i < n → ∀ (j : Nat) (a b : AV), (f i)[j]? = some a → (f' i)[j]? = some b → Sub a b) : Sub (.lst n f) (.lst n f')
  | fp (cs cs' : List AV) (o : Nat) (hl : cs.length = cs'.length) (h : ∀ (j : Nat) (a b : AV), cs[j]? = some a → cs'[j]? = some b → Sub a b) : Sub (.fp cs o) (.fp cs' o)
  | agg (cs cs' : List AV) (hl : cs.length = cs'.length) (h : ∀ (j : Nat) (a b : AV), cs[j]? = some a → cs'[j]? = some b → Sub a b) : Sub (.agg cs) (.agg cs')
  | tup (cs cs' : List AV) (hl : cs.length = cs'.length) (h : ∀ (j : Nat) (a b : AV), cs[j]? = some a → cs'[j]? = some b → Sub a b) : Sub (.tup cs) (.tup cs')
  | clo (f : Nat) (cs cs' : List AV) (hl : cs.length = cs'.length) (h : ∀ (j : Nat) (a b : AV), cs[j]? = some a → cs'[j]? = some b → Sub a b) : Sub (.clo f cs) (.clo f cs')

theorem sub_get {cs cs' : List AV} (hl : cs.length = cs'.length) {j : Nat} {b : AV} (hb : cs'[j]? = some b) : ∃ a, cs[j]? = some a :=
  ⟨_, List.getElem?_eq_getElem (by rw [hl]; exact (List.getElem?_eq_some_iff.1 hb).1)⟩

theorem RepC.sub {w : World} {F : Nat → Prop} {a a' : AV} (hs : Sub a a') : ∀ {v : Value}, RepC w F a v → RepC w F a' v := by
  induction hs with
  | refl a => exact fun h => h
  | any a => exact fun _ => .any _
  | nil f => intro v h; cases h; exact .lstE f none 0
  | lst n f f' hl _ ih =>
    intro v h
    cases h with
    | lstE _ A c => exact .lstE f' A c
    | lst len _ _ blk off c sz us hn hF hlc hlen hc h1 hr =>
      refine .lst len n f' blk off c sz us hn hF hlc (fun i hi => by rw [← hl i (by omega) (by omega)]; exact hlen i hi) (fun i hi j b hb => ?_) (fun i hi j b hb => ?_) (fun i hi j b hb => ?_)
      all_goals obtain ⟨x, hx⟩ := sub_get (hl i (by omega) (by omega)) hb
      · exact hc i hi j x hx
      · exact h1 i hi j x hx
      · exact ih i (by omega) (by omega) j x b hx hb (hr i hi j x hx)
  | fp cs cs' o hl _ ih =>
    intro v h
    cases h with
    | fp _ _ blk off us hF hc hr =>
      refine .fp cs' o blk off us hF (fun j b hb => ?_) (fun j b hb => ?_)
      all_goals obtain ⟨x, hx⟩ := sub_get hl hb
      · exact hc j x hx
      · exact ih j x b hx hb (hr j x hx)
  | agg cs cs' hl _ ih =>
    intro v h
    cases h with
    | agg _ vs us h0 hc hr =>
      refine .agg cs' vs us (by rw [h0, hl]) (fun j b hb => ?_) (fun j b hb => ?_)
      all_goals obtain ⟨x, hx⟩ := sub_get hl hb
      · exact hc j x hx
      · exact ih j x b hx hb (hr j x hx)
  | tup cs cs' hl _ ih =>
    intro v h
    cases h with
    | tup _ vs us h0 hc hr =>
      refine .tup cs' vs us (by rw [h0, hl]) (fun j b hb => ?_) (fun j b hb => ?_)
      all_goals obtain ⟨x, hx⟩ := sub_get hl hb
      · exact hc j x hx
      · exact ih j x b hx hb (hr j x hx)
  | clo f cs cs' hl _ ih =>
    intro v h
    cases h with
    | clo _ _ vs us h0 hc hr =>
      refine .clo f cs' vs us (by rw [h0, hl]) (fun j b hb => ?_) (fun j b hb => ?_)
      all_goals obtain ⟨x, hx⟩ := sub_get hl hb
      · exact hc j x hx
      · exact ih j x b hx hb (hr j x hx)


/-- the own blocks that a value points into are among these -/
def ref0 (K : List Nat) : AV → Bool
  | .sl d _ _ | .pb d _ _ | .pe d _ _ _ _ => memN d K
  | .agg _ | .tup _ | .clo .. | .own .. => false
  | _ => true
def ref1 (K : List Nat) : AV → Bool
  | .agg cs | .tup cs | .clo _ cs => allB (ref0 K) cs
  | a => ref0 K a
def wk0 (B : Nat → Blk) (K : List Nat) (a b : AV) : Prop :=
  match b with
  | .any => True
  | b => match a, b with
    | .sl d g n, .lst m f => match B d with
      | .arr _ _ g' _ n' f0 => match eqN g g', memN d K, eqN d ioId with
        | true, false, false => n = n' ∧ Sub (.lst n f0) (.lst m f)
        | _, _, _ => False
      | _ => False
    | a, b => match ref0 K b with
      | true => Sub a b
      | false => False
def wk0L (B : Nat → Blk) (K : List Nat) : List AV → List AV → Prop
  | [], [] => True
  | a :: r, b :: s => wk0 B K a b ∧ wk0L B K r s
  | _, _ => False
def wkA (B : Nat → Blk) (K : List Nat) (a b : AV) : Prop :=
  match a, b with
  | .agg cs, .agg cs' => wk0L B K cs cs'
  | .tup cs, .tup cs' => wk0L B K cs cs'
  | .clo f cs, .clo f' cs' => match eqN f f' with
    | true => wk0L B K cs cs'
    | false => False
  | a, b => wk0 B K a b
def wkL (B : Nat → Blk) (K : List Nat) : List AV → List AV → Prop
  | [], [] => True
  | a :: r, b :: s => wkA B K a b ∧ wkL B K r s
  | _, _ => False
def impB : Bool → Bool → Bool
  | true, false => false
  | _, _ => true
def wkBlk (B : Nat → Blk) (K : List Nat) (x y : Blk) : Prop :=
  match x, y with
  | .box fz g cs, .box fz' g' cs' => match eqN g g', impB fz fz' with
    | true, true => wkL B K cs cs'
    | _, _ => False
  | .arr fz fx g sz n f, .arr fz' fx' g' sz' n' f' => match eqN g g', eqN sz sz', impB fz fz', impB fx fx' with
    | true, true, true, true => n = n' ∧ ∀ i : Int, 0 ≤ i → i < n → (f i).length = (f' i).length ∧ ∀ (j : Nat) (a b : AV), (f i)[j]? = some a → (f' i)[j]? = some b → Sub a b
    | _, _, _, _ => False
  | _, _ => False
def wkB (K : List Nat) (σ : St) : List (Nat × Blk) → Prop
  | [] => True
  | (d, y) :: r => wkBlk σ.B K (σ.B d) y ∧ wkB K σ r
def nodupN : List Nat → Bool
  | [] => true
  | x :: r => match memN x r with
    | true => false
    | false => nodupN r
def isFz : Blk → Bool
  | .box fz _ _ => fz
  | .arr fz _ _ _ _ _ => fz
  | .none => false
def ioKept (σ σ' : St) : Bool :=
  match memN ioId (ids σ.b), memN ioId (ids σ'.b) with
  | true, false => false
  | _, _ => !(isFz (σ'.B ioId))
/-- what is known in σ' is known in σ -/
def Wk (σ σ' : St) : Prop :=
  match nodupN (ids σ'.b), ioKept σ σ' with
  | true, true => wkL σ.B (ids σ'.b) σ.s σ'.s ∧ wkB (ids σ'.b) σ σ'.b
  | _, _ => False

section
variable {cx : Cx} {β : Nat → Nat × Nat} {σ σ' : St} {a : Act} {w : World}

/-- the blocks, as much as anything points into them -/
def BW (K : List Nat) (B B' : Nat → Blk) : Prop := ∀ d, d ∈ K → (∀ fz fx g sz n f, B' d = .arr fz fx g sz n f → ∃ fz' fx' f', B d = .arr fz' fx' g sz n f') ∧ (∀ fz g cs, B' d = .box fz g cs → ∃ fz' cs', B d = .box fz' g cs') ∧ (B d).gen = (B' d).gen

theorem Rep.ref0 {F F' : Nat → Prop} {B B' : Nat → Blk} {K : List Nat} (hF : ∀ b, F b → F' b) (hK : BW K B B') {x : AV} {v : Value} (hr : ref0 K x = true) (h : Rep w F β B x v) : Rep w F' β B' x v := by
  cases h with
  | cl h => exact .cl (h.mono hF (fun _ _ _ => rfl))
  | sl d g n v h0 h1 h2 h3 =>
    simp only [AB.ref0, memN_eq, decide_eq_true_eq] at hr
    obtain ⟨k1, k2, k3⟩ := hK d hr
    refine .sl d g n v h0 (by rw [← k3]; exact h1) (fun fz fx sz n0 f hb => ?_) (fun fz fx sz f hb => ?_)
    · obtain ⟨_, _, _, hb'⟩ := k1 _ _ _ _ _ _ hb; exact h2 _ _ _ _ _ hb'
    · obtain ⟨_, _, _, hb'⟩ := k1 _ _ _ _ _ _ hb; exact h3 _ _ _ _ hb'
  | pb d g o v h0 h1 h3 =>
    simp only [AB.ref0, memN_eq, decide_eq_true_eq] at hr
    obtain ⟨k1, k2, k3⟩ := hK d hr
    refine .pb d g o v h0 (by rw [← k3]; exact h1) (fun fz cs hb => ?_)
    obtain ⟨_, _, hb'⟩ := k2 _ _ _ hb; exact h3 _ _ hb'
  | pe d g n i o v h0 h1 h2 h3 =>
    simp only [AB.ref0, memN_eq, decide_eq_true_eq] at hr
    obtain ⟨k1, k2, k3⟩ := hK d hr
    refine .pe d g n i o v h0 (by rw [← k3]; exact h1) (fun fz fx sz n0 f hb => ?_) (fun fz fx sz f hb => ?_)
    · obtain ⟨_, _, _, hb'⟩ := k1 _ _ _ _ _ _ hb; exact h2 _ _ _ _ _ hb'
    · obtain ⟨_, _, _, hb'⟩ := k1 _ _ _ _ _ _ hb; exact h3 _ _ _ _ hb'
  | _ => simp [AB.ref0] at hr

theorem Rep.ref1 {F F' : Nat → Prop} {B B' : Nat → Blk} {K : List Nat} (hF : ∀ b, F b → F' b) (hK : BW K B B') {x : AV} {v : Value} (hr : ref1 K x = true) (h : Rep w F β B x v) : Rep w F' β B' x v := by
  have all : ∀ {cs : List AV}, allB (AB.ref0 K) cs = true → ∀ {j : Nat} {y : AV}, cs[j]? = some y → AB.ref0 K y = true := fun hc j y hy => by
    rw [allB_eq, List.all_eq_true] at hc; exact hc _ (List.mem_of_getElem? hy)
  cases h with
  | cl h => exact .cl (h.mono hF (fun _ _ _ => rfl))
  | agg cs vs us hl hc hrep => exact .agg cs vs us hl hc (fun j y hy => (hrep j y hy).ref0 hF hK (all hr hy))
  | tup cs vs us hl hc hrep => exact .tup cs vs us hl hc (fun j y hy => (hrep j y hy).ref0 hF hK (all hr hy))
  | clo f cs vs us hl hc hrep => exact .clo f cs vs us hl hc (fun j y hy => (hrep j y hy).ref0 hF hK (all hr hy))
  | sl d g n v h0 h1 h2 h3 => exact (Rep.sl d g n v h0 h1 h2 h3).ref0 hF hK hr
  | pb d g o v h0 h1 h3 => exact (Rep.pb d g o v h0 h1 h3).ref0 hF hK hr
  | pe d g n i o v h0 h1 h2 h3 => exact (Rep.pe d g n i o v h0 h1 h2 h3).ref0 hF hK hr

theorem Rep.sub {F : Nat → Prop} {B : Nat → Blk} {x y : AV} (hs : Sub x y) : ∀ {v : Value}, Rep w F β B x v → Rep w F β B y v := by
  induction hs with
  | refl a => exact fun h => h
  | any a => exact fun _ => .cl (.any _)
  | nil f => intro v h; rw [h.val_inv]; exact .cl (.lstE f none 0)
  | lst n f f' hl hh _ => intro v h; exact .cl (h.lst_inv.sub (.lst n f f' hl hh))
  | fp cs cs' o hl hh _ => intro v h; exact .cl (h.fp_inv.sub (.fp cs cs' o hl hh))
  | agg cs cs' hl _ ih =>
    intro v h
    obtain ⟨vs, us, rfl, h0, hc, hr⟩ := h.agg_inv
    refine .agg cs' vs us (by rw [h0, hl]) (fun j b hb => ?_) (fun j b hb => ?_)
    all_goals obtain ⟨x, hx⟩ := sub_get hl hb
    · exact hc j x hx
    · exact ih j x b hx hb (hr j x hx)
  | tup cs cs' hl _ ih =>
    intro v h
    obtain ⟨vs, us, rfl, h0, hc, hr⟩ := h.tup_inv
    refine .tup cs' vs us (by rw [h0, hl]) (fun j b hb => ?_) (fun j b hb => ?_)
    all_goals obtain ⟨x, hx⟩ := sub_get hl hb
    · exact hc j x hx
    · exact ih j x b hx hb (hr j x hx)
  | clo f cs cs' hl _ ih =>
    intro v h
    obtain ⟨vs, us, rfl, h0, hc, hr⟩ := h.clo_inv
    refine .clo f cs' vs us (by rw [h0, hl]) (fun j b hb => ?_) (fun j b hb => ?_)
    all_goals obtain ⟨x, hx⟩ := sub_get hl hb
    · exact hc j x hx
    · exact ih j x b hx hb (hr j x hx)

theorem wk0_rep {F' : Nat → Prop} {B' : Nat → Blk} {K : List Nat} (h : Rel cx β σ a w) (hF : ∀ b, Fr cx w β σ.B b → F' b) (hK : BW K σ.B B') (hD : ∀ d, σ.B d ≠ .none → d ∉ K → d ≠ ioId → F' (β d).1) {x y : AV} {v : Value} (hw : wk0 σ.B K x y) (hx : Rep w (Fr cx w β σ.B) β σ.B x v) : Rep w F' β B' y v := by
  unfold wk0 at hw
  split at hw
  · exact .cl (.any _)
  · split at hw
    · rename_i d g n m f _
      split at hw
      · rename_i fz fx g' sz n' f0 hB
        split at hw
        · rename_i hg hm hio
          obtain rfl := eqN_eq hg
          have hv : view0 σ.B (.sl d g n) = .ok (n = n') (.lst n f0) [d] := by
            simp only [view0, hB, eqN_refl]
          obtain ⟨r1, -⟩ := view0_sound h (.sl d g n) v _ _ _ hv hw.1 hx
          refine .cl ((r1.mono (F' := F') (fun b hb => ?_) (fun _ _ _ => rfl)).sub hw.2)
          rcases hb with hb | ⟨e, he, rfl⟩
          · exact hF b hb
          · simp only [List.mem_singleton] at he
            subst he
            refine hD e (by rw [hB]; intro hc; cases hc) ?_ (fun hc => by subst hc; rw [eqN_refl] at hio; cases hio)
            rw [memN_eq] at hm
            simpa using hm
        · exact hw.elim
      · exact hw.elim
    · split at hw
      · rename_i hr
        exact (hx.sub hw).ref0 hF hK hr
      · exact hw.elim
theorem wk0L_get {B : Nat → Blk} {K : List Nat} : ∀ {l m : List AV}, wk0L B K l m → l.length = m.length ∧ ∀ (j : Nat) (x y : AV), l[j]? = some x → m[j]? = some y → wk0 B K x y
  | [], [], _ => ⟨rfl, by simp⟩
  | a :: r, b :: s, h => by
    obtain ⟨k1, k2⟩ := wk0L_get h.2
    refine ⟨by simp [k1], fun j x y hx hy => ?_⟩
    cases j with
    | zero => simp only [List.getElem?_cons_zero, Option.some.injEq] at hx hy; subst hx; subst hy; exact h.1
    | succ j => exact k2 j x y (by simpa using hx) (by simpa using hy)
  | [], _ :: _, h => h.elim
  | _ :: _, [], h => h.elim
theorem wkA_rep {F' : Nat → Prop} {B' : Nat → Blk} {K : List Nat} (h : Rel cx β σ a w) (hF : ∀ b, Fr cx w β σ.B b → F' b) (hK : BW K σ.B B') (hD : ∀ d, σ.B d ≠ .none → d ∉ K → d ≠ ioId → F' (β d).1) {x y : AV} {v : Value} (hw : wkA σ.B K x y) (hx : Rep w (Fr cx w β σ.B) β σ.B x v) : Rep w F' β B' y v := by
  unfold wkA at hw
  split at hw
  · obtain ⟨vs, us, rfl, h0, hc, hr⟩ := hx.agg_inv
    obtain ⟨k1, k2⟩ := wk0L_get hw
    refine .agg _ vs us (by rw [h0, k1]) (fun j b hb => ?_) (fun j b hb => ?_)
    all_goals obtain ⟨z, hz⟩ := sub_get k1 hb
    · exact hc j z hz
    · exact wk0_rep h hF hK hD (k2 j z b hz hb) (hr j z hz)
  · obtain ⟨vs, us, rfl, h0, hc, hr⟩ := hx.tup_inv
    obtain ⟨k1, k2⟩ := wk0L_get hw
    refine .tup _ vs us (by rw [h0, k1]) (fun j b hb => ?_) (fun j b hb => ?_)
    all_goals obtain ⟨z, hz⟩ := sub_get k1 hb
    · exact hc j z hz
    · exact wk0_rep h hF hK hD (k2 j z b hz hb) (hr j z hz)
  · split at hw
    · rename_i hff
      obtain rfl := eqN_eq hff
      obtain ⟨vs, us, rfl, h0, hc, hr⟩ := hx.clo_inv
      obtain ⟨k1, k2⟩ := wk0L_get hw
      refine .clo _ _ vs us (by rw [h0, k1]) (fun j b hb => ?_) (fun j b hb => ?_)
      all_goals obtain ⟨z, hz⟩ := sub_get k1 hb
      · exact hc j z hz
      · exact wk0_rep h hF hK hD (k2 j z b hz hb) (hr j z hz)
    · exact hw.elim
  · exact wk0_rep h hF hK hD hw hx

theorem wkL_get {B : Nat → Blk} {K : List Nat} : ∀ {l m : List AV}, wkL B K l m → l.length = m.length ∧ ∀ (j : Nat) (x y : AV), l[j]? = some x → m[j]? = some y → wkA B K x y
  | [], [], _ => ⟨rfl, by simp⟩
  | a :: r, b :: s, h => by
    obtain ⟨k1, k2⟩ := wkL_get h.2
    refine ⟨by simp [k1], fun j x y hx hy => ?_⟩
    cases j with
    | zero => simp only [List.getElem?_cons_zero, Option.some.injEq] at hx hy; subst hx; subst hy; exact h.1
    | succ j => exact k2 j x y (by simpa using hx) (by simpa using hy)
  | [], _ :: _, h => h.elim
  | _ :: _, [], h => h.elim

theorem getB_mem : ∀ {b : List (Nat × Blk)} {d : Nat}, d ∉ ids b → getB d b = .none
  | [], _, _ => rfl
  | (e, x) :: r, d, h => by
    simp only [ids, List.mem_cons, not_or] at h
    simp only [getB, beq_ne (Ne.symm h.1)]
    exact getB_mem h.2
theorem wkB_get {K : List Nat} : ∀ {b : List (Nat × Blk)}, wkB K σ b → ∀ d, d ∈ ids b → wkBlk σ.B K (σ.B d) (getB d b)
  | [], _, d, hd => by cases hd
  | (e, x) :: r, h, d, hd => by
    simp only [getB]
    by_cases he : e = d
    · subst he; rw [eqN_refl]; exact h.1
    · rw [beq_ne he]
      simp only [ids, List.mem_cons] at hd
      exact wkB_get h.2 d (hd.resolve_left (Ne.symm he))

theorem impB_f {x y : Bool} (h : impB x y = true) (hy : y = false) : x = false := by
  subst hy; cases x
  · rfl
  · cases h
theorem isLive_box {fz : Bool} {g : Nat} {cs : List AV} : isLive (.box fz g cs) ↔ fz = false := by cases fz <;> simp [isLive]
theorem isLive_arr {fz fx : Bool} {g sz : Nat} {n : Int} {f : Int → List AV} : isLive (.arr fz fx g sz n f) ↔ fz = false := by cases fz <;> simp [isLive]
theorem isLive_fz {x : Blk} (h : isFz x = false) (hn : x ≠ .none) : isLive x := by
  cases x with
  | none => exact absurd rfl hn
  | box fz g cs => exact isLive_box.2 h
  | arr fz fx g sz n f => exact isLive_arr.2 h

/-- To know less is to know. -/
theorem Rel.weak (h : Rel cx β σ a w) (hk : ∀ x v, cx.K = some (x, v) → (∃ n, x = .sl ioId 1 n) ∨ ∃ o, x = .pb ioId 1 o) (hw : Wk σ σ') : Rel cx β σ' a w := by
  unfold Wk at hw
  split at hw
  · rename_i hnd hio
    obtain ⟨hs, hb⟩ := hw
    obtain ⟨s1, s2⟩ := wkL_get hs
    have hn : ∀ d, d ∉ ids σ'.b → σ'.B d = .none := fun d hd => getB_mem hd
    have hW : ∀ d, d ∈ ids σ'.b → wkBlk σ.B (ids σ'.b) (σ.B d) (σ'.B d) := fun d hd => wkB_get hb d hd
    have hK : BW (ids σ'.b) σ.B σ'.B := by
      intro d hd
      have := hW d hd
      unfold wkBlk at this
      split at this
      · rename_i h1 h2
        split at this
        · rename_i hg _
          obtain rfl := eqN_eq hg
          rw [h1, h2]
          refine ⟨fun _ _ _ _ _ _ hc => (by cases hc), fun fz g cs hc => ?_, rfl⟩
          simp only [Blk.box.injEq] at hc ⊢
          obtain ⟨-, rfl, -⟩ := hc
          exact ⟨_, _, rfl, rfl, rfl⟩
        · exact this.elim
      · rename_i h1 h2
        split at this
        · rename_i hg hsz _ _
          obtain rfl := eqN_eq hg
          obtain rfl := eqN_eq hsz
          obtain ⟨rfl, -⟩ := this
          rw [h1, h2]
          refine ⟨fun fz fx g sz n f hc => ?_, fun _ _ _ hc => (by cases hc), rfl⟩
          simp only [Blk.arr.injEq] at hc ⊢
          obtain ⟨-, -, rfl, rfl, rfl, -⟩ := hc
          exact ⟨_, _, _, rfl, rfl, rfl, rfl, rfl, rfl⟩
        · exact this.elim
      · exact this.elim
    have hlv : ∀ d, live σ'.B d → live σ.B d := by
      intro d hd
      by_cases hm : d ∈ ids σ'.b
      · have := hW d hm
        rw [live_iff] at hd ⊢
        unfold wkBlk at this
        split at this
        · rename_i h1 h2
          rw [h2] at hd; rw [h1]
          split at this
          · rename_i himp
            exact isLive_box.2 (impB_f himp (isLive_box.1 hd))
          · exact this.elim
        · rename_i h1 h2
          rw [h2] at hd; rw [h1]
          split at this
          · rename_i himp _
            exact isLive_arr.2 (impB_f himp (isLive_arr.1 hd))
          · exact this.elim
        · exact this.elim
      · rw [live_iff, hn d hm] at hd; exact hd.elim
    have hF : ∀ b, Fr cx w β σ.B b → Fr cx w β σ'.B b := fun b ⟨h1, h2, h3⟩ => ⟨h1, h2, fun d hd => h3 d (hlv d hd)⟩
    have hD : ∀ d, σ.B d ≠ .none → d ∉ ids σ'.b → d ≠ ioId → Fr cx w β σ'.B (β d).1 := fun d hd hm hdi => by
      by_cases hl : live σ.B d
      · refine ⟨.inr ((h.own d hl).resolve_right (fun hc => hdi hc.1)), (h.blk d).lt hd, fun e he heq => ?_⟩
        have := h.inj e d (hlv e he) hl heq
        subst this
        rw [live_iff, hn e hm] at he
        exact he
      · exact hF _ (h.fro d hd hl)
    refine ⟨by rw [h.len, s1], fun i v hv => ?_, h.df, fun d => ?_, fun d hd => h.own d (hlv d hd), fun d d' hd hd' => h.inj d d' (hlv d hd) (hlv d' hd'), fun d hd hnl => ?_, h.bel, h.bas, h.hS, fun x v e => ?_⟩
    · have hi : i < σ.s.length := by rw [← h.len]; exact (Array.getElem?_eq_some_iff.1 hv).1
      have hi' : i < σ'.s.length := by rw [← s1]; exact hi
      have := wkA_rep h hF hK hD (s2 i _ _ (List.getElem?_eq_getElem hi) (List.getElem?_eq_getElem hi')) (by have := h.slots i v hv; rwa [getS_eq, List.getElem?_eq_getElem hi] at this)
      rw [getS_eq, List.getElem?_eq_getElem hi']
      exact this
    · by_cases hm : d ∈ ids σ'.b
      · have := hW d hm
        have hbk := h.blk d
        unfold BlkOK at hbk ⊢
        unfold wkBlk at this
        split at this
        · rename_i h1 h2
          split at this
          · rw [h1] at hbk
            rw [h2]
            obtain ⟨k1, k2⟩ := wkL_get this
            obtain ⟨c, t, fr, q1, q2, q3, q4⟩ := hbk
            refine ⟨c, t, fr, q1, by rw [q2, k1], q3, fun j y hy => ?_⟩
            obtain ⟨x, hx⟩ := sub_get k1 hy
            obtain ⟨z, hz, hr⟩ := q4 j x hx
            exact ⟨z, hz, wkA_rep h hF hK hD (k2 j x y hx hy) hr⟩
          · exact this.elim
        · rename_i h1 h2
          split at this
          · rename_i hg hsz hi1 hi2
            obtain rfl := eqN_eq hsz
            obtain ⟨rfl, hsub⟩ := this
            rw [h1] at hbk
            rw [h2]
            obtain ⟨c, t, fr, len, q0, q1, q2, q3, q4, q5, q6, q7⟩ := hbk
            refine ⟨c, t, fr, len, q0, q1, q2, q3, q4, q5, fun hfx => q6 (impB_f hi2 hfx), fun i hi => ?_⟩
            obtain ⟨m1, m2⟩ := hsub i (by omega) (by omega)
            refine ⟨by rw [← m1]; exact (q7 i hi).1, fun m y hy => ?_⟩
            obtain ⟨x, hx⟩ := sub_get m1 hy
            obtain ⟨z, hz, hz1, hzr⟩ := (q7 i hi).2 m x hx
            exact ⟨z, hz, hz1, (hzr.sub (m2 m x y hx hy)).mono hF (fun _ _ _ => rfl)⟩
          · exact this.elim
        · exact this.elim
      · unfold BlkOK; rw [hn d hm]; trivial
    · by_cases hl : live σ.B d
      · have hm : d ∈ ids σ'.b := Classical.byContradiction fun hm => hd (hn d hm)
        by_cases hdi : d = ioId
        · exfalso
          subst hdi
          refine hnl (live_iff.2 (isLive_fz ?_ hd))
          unfold ioKept at hio
          split at hio
          · cases hio
          · simpa using hio
        · refine ⟨.inr ((h.own d hl).resolve_right (fun hc => hdi hc.1)), (h.blk d).lt (fun hc => by rw [live_iff, hc] at hl; exact hl), fun e he heq => hnl (h.inj e d (hlv e he) hl heq ▸ he)⟩
      · refine hF _ (h.fro d (fun hc => ?_) hl)
        have hm : d ∈ ids σ'.b := Classical.byContradiction fun hm => hd (hn d hm)
        have := hW d hm
        rw [hc] at this
        simp [wkBlk] at this
    · have hkp := h.kp x v e
      have hm0 : ioId ∈ ids σ.b := Classical.byContradiction fun hm => by
        have h0 : σ.B ioId = .none := getB_mem hm
        rcases hk x v e with ⟨n, rfl⟩ | ⟨o, rfl⟩
        · have := hkp.sl_inv.1; rw [h0] at this; simp [Blk.gen] at this
        · have := hkp.pb_inv.1; rw [h0] at this; simp [Blk.gen] at this
      have hm : ioId ∈ ids σ'.b := Classical.byContradiction fun hm => by
        unfold ioKept at hio
        simp [memN_eq, hm0, hm] at hio
      refine hkp.ref0 hF hK ?_
      rcases hk x v e with ⟨n, rfl⟩ | ⟨o, rfl⟩ <;> simp [AB.ref0, memN_eq, hm]
  · exact hw.elim
end

/-! ### Generations: what is new again is made to look as at first -/
def ren0 (B : Nat → Blk) : AV → AV
  | .sl d g n => match eqN d ioId with
    | true => .sl d g n
    | false => match B d with
      | .none => .any
      | x => match eqN g x.gen with
        | true => .sl d 1 n
        | false => .any
  | .pb d g o => match eqN d ioId with
    | true => .pb d g o
    | false => match B d with
      | .none => .any
      | x => match eqN g x.gen with
        | true => .pb d 1 o
        | false => .any
  | .pe d g n i o => match eqN d ioId with
    | true => .pe d g n i o
    | false => match B d with
      | .none => .any
      | x => match eqN g x.gen with
        | true => .pe d 1 n i o
        | false => .any
  | .val v => .val v
  | .lst n f => .lst n f
  | .fp cs o => .fp cs o
  | _ => .any
def ren1 (B : Nat → Blk) : AV → AV
  | .agg cs => .agg (mapL (ren0 B) cs)
  | .tup cs => .tup (mapL (ren0 B) cs)
  | .clo f cs => .clo f (mapL (ren0 B) cs)
  | a => ren0 B a
def ren2 (B : Nat → Blk) : AV → AV
  | .agg cs => .agg (mapL (ren1 B) cs)
  | .tup cs => .tup (mapL (ren1 B) cs)
  | .clo f cs => .clo f (mapL (ren1 B) cs)
  | a => ren0 B a
def regX (B : Nat → Blk) (d : Nat) : Blk → Blk
  | .none => .none
  | .box fz g cs => .box fz (match eqN d ioId with
    | true => g
    | false => 1) (mapL (ren1 B) cs)
  | .arr fz fx g sz n f => .arr fz fx (match eqN d ioId with
    | true => g
    | false => 1) sz n f
def regL (B : Nat → Blk) : List (Nat × Blk) → List (Nat × Blk)
  | [] => []
  | (d, x) :: r => (d, regX B d x) :: regL B r
def regS (σ : St) : St := ⟨mapL (ren2 σ.B) σ.s, regL σ.B σ.b⟩

section
variable {cx : Cx} {β : Nat → Nat × Nat} {σ σ' : St} {a : Act} {w : World}
theorem regL_get (B : Nat → Blk) (d : Nat) : ∀ (b : List (Nat × Blk)), getB d (regL B b) = regX B d (getB d b)
  | [] => rfl
  | (e, x) :: r => by
    simp only [regL, getB]
    by_cases he : e = d
    · subst he; rw [eqN_refl]
    · rw [beq_ne he]; exact regL_get B d r
theorem regS_B (σ : St) (d : Nat) : (regS σ).B d = regX σ.B d (σ.B d) := regL_get _ _ _
theorem regX_live {B : Nat → Blk} {d : Nat} {x : Blk} : isLive (regX B d x) ↔ isLive x := by
  cases x with
  | none => exact Iff.rfl
  | box fz g cs => simp only [regX]; rw [isLive_box, isLive_box]
  | arr fz fx g sz n f => simp only [regX]; rw [isLive_arr, isLive_arr]
theorem regS_live (σ : St) (d : Nat) : live (regS σ).B d ↔ live σ.B d := by
  rw [live_iff, live_iff, regS_B]; exact regX_live
theorem regS_Fr : Fr cx w β (regS σ).B = Fr cx w β σ.B := by
  funext b
  refine propext ⟨fun h => ⟨h.1, h.2.1, fun d hd => h.2.2 d ((regS_live σ d).2 hd)⟩, fun h => ⟨h.1, h.2.1, fun d hd => h.2.2 d ((regS_live σ d).1 hd)⟩⟩
theorem regX_arr {B : Nat → Blk} {d : Nat} {x : Blk} {fz fx : Bool} {g sz : Nat} {n : Int} {f : Int → List AV} (h : regX B d x = .arr fz fx g sz n f) : ∃ g0, x = .arr fz fx g0 sz n f ∧ ((d = ioId → g0 = g) ∧ (d ≠ ioId → g = 1)) := by
  cases x <;> simp only [regX, reduceCtorEq, Blk.arr.injEq] at h
  obtain ⟨rfl, rfl, hg, rfl, rfl, rfl⟩ := h
  refine ⟨_, rfl, fun hd => ?_, fun hd => ?_⟩
  · subst hd; rw [eqN_refl] at hg; exact hg
  · rw [beq_ne hd] at hg; exact hg.symm
theorem regX_box {B : Nat → Blk} {d : Nat} {x : Blk} {fz : Bool} {g : Nat} {cs : List AV} (h : regX B d x = .box fz g cs) : ∃ g0 cs0, x = .box fz g0 cs0 ∧ cs = mapL (ren1 B) cs0 ∧ ((d = ioId → g0 = g) ∧ (d ≠ ioId → g = 1)) := by
  cases x <;> simp only [regX, reduceCtorEq, Blk.box.injEq] at h
  obtain ⟨rfl, hg, rfl⟩ := h
  refine ⟨_, _, rfl, rfl, fun hd => ?_, fun hd => ?_⟩
  · subst hd; rw [eqN_refl] at hg; exact hg
  · rw [beq_ne hd] at hg; exact hg.symm
theorem regX_gen_io {B : Nat → Blk} {x : Blk} : (regX B ioId x).gen = x.gen := by
  cases x <;> simp [regX, Blk.gen, eqN_refl]
theorem regX_gen {B : Nat → Blk} {d : Nat} {x : Blk} (hd : d ≠ ioId) (hx : x ≠ .none) : (regX B d x).gen = 1 := by
  cases x <;> simp [regX, Blk.gen, beq_ne hd]
  exact absurd rfl hx

theorem ren0_rep {F : Nat → Prop} {x : AV} {v : Value} (h : Rep w F β σ.B x v) : Rep w F β (regS σ).B (ren0 σ.B x) v := by
  cases h with
  | cl h =>
    cases h with
    | val => exact .cl (.val _)
    | any => exact .cl (.any _)
    | lstE => exact .cl (.lstE ..)
    | lst len n f blk off c sz us hn hF hlc hl hc h1 hr => exact .cl (.lst len n f blk off c sz us hn hF hlc hl hc h1 hr)
    | fp cs o blk off us hF hc hr => exact .cl (.fp cs o blk off us hF hc hr)
    | agg => exact .cl (.any _)
    | tup => exact .cl (.any _)
    | clo => exact .cl (.any _)
  | sl d g n v h0 h1 h2 h3 =>
    simp only [ren0]
    by_cases hd : d = ioId
    · rw [hd, eqN_refl]
      subst hd
      refine .sl ioId g n v h0 (by rw [regS_B, regX_gen_io]; exact h1) (fun fz fx sz n0 f hb => ?_) (fun fz fx sz f hb => ?_)
      · rw [regS_B] at hb
        obtain ⟨g0, e1, e2, e3⟩ := regX_arr hb
        rw [e2 rfl] at e1
        exact h2 _ _ _ _ _ e1
      · rw [regS_B] at hb
        obtain ⟨g0, e1, e2, e3⟩ := regX_arr hb
        rw [e2 rfl] at e1
        exact h3 _ _ _ _ e1
    · rw [beq_ne hd]
      simp only
      split
      · exact .cl (.any _)
      · rename_i hne
        split
        · rename_i hg
          obtain rfl := eqN_eq hg
          refine .sl d 1 n v h0 (by rw [regS_B, regX_gen hd hne]; exact Nat.le_refl _) (fun fz fx sz n0 f hb => ?_) (fun fz fx sz f hb => ?_)
          · rw [regS_B] at hb
            obtain ⟨g0, e1, e2, e3⟩ := regX_arr hb
            have e4 : (σ.B d).gen = g0 := by rw [e1]; rfl
            exact h2 fz fx sz n0 f (by rw [e4]; exact e1)
          · rw [regS_B] at hb
            obtain ⟨g0, e1, e2, e3⟩ := regX_arr hb
            have e4 : (σ.B d).gen = g0 := by rw [e1]; rfl
            exact h3 fz fx sz f (by rw [e4]; exact e1)
        · exact .cl (.any _)
  | pb d g o v h0 h1 h3 =>
    simp only [ren0]
    by_cases hd : d = ioId
    · rw [hd, eqN_refl]
      subst hd
      refine .pb ioId g o v h0 (by rw [regS_B, regX_gen_io]; exact h1) (fun fz cs hb => ?_)
      rw [regS_B] at hb
      obtain ⟨g0, cs0, e1, e1', e2, e3⟩ := regX_box hb
      rw [e2 rfl] at e1
      exact h3 _ _ e1
    · rw [beq_ne hd]
      simp only
      split
      · exact .cl (.any _)
      · rename_i hne
        split
        · rename_i hg
          obtain rfl := eqN_eq hg
          refine .pb d 1 o v h0 (by rw [regS_B, regX_gen hd hne]; exact Nat.le_refl _) (fun fz cs hb => ?_)
          rw [regS_B] at hb
          obtain ⟨g0, cs0, e1, e1', e2, e3⟩ := regX_box hb
          have e4 : (σ.B d).gen = g0 := by rw [e1]; rfl
          exact h3 fz cs0 (by rw [e4]; exact e1)
        · exact .cl (.any _)
  | pe d g n i o v h0 h1 h2 h3 =>
    simp only [ren0]
    by_cases hd : d = ioId
    · rw [hd, eqN_refl]
      subst hd
      refine .pe ioId g n i o v h0 (by rw [regS_B, regX_gen_io]; exact h1) (fun fz fx sz n0 f hb => ?_) (fun fz fx sz f hb => ?_)
      · rw [regS_B] at hb
        obtain ⟨g0, e1, e2, e3⟩ := regX_arr hb
        rw [e2 rfl] at e1
        exact h2 _ _ _ _ _ e1
      · rw [regS_B] at hb
        obtain ⟨g0, e1, e2, e3⟩ := regX_arr hb
        rw [e2 rfl] at e1
        exact h3 _ _ _ _ e1
    · rw [beq_ne hd]
      simp only
      split
      · exact .cl (.any _)
      · rename_i hne
        split
        · rename_i hg
          obtain rfl := eqN_eq hg
          refine .pe d 1 n i o v h0 (by rw [regS_B, regX_gen hd hne]; exact Nat.le_refl _) (fun fz fx sz n0 f hb => ?_) (fun fz fx sz f hb => ?_)
          · rw [regS_B] at hb
            obtain ⟨g0, e1, e2, e3⟩ := regX_arr hb
            have e4 : (σ.B d).gen = g0 := by rw [e1]; rfl
            exact h2 fz fx sz n0 f (by rw [e4]; exact e1)
          · rw [regS_B] at hb
            obtain ⟨g0, e1, e2, e3⟩ := regX_arr hb
            have e4 : (σ.B d).gen = g0 := by rw [e1]; rfl
            exact h3 fz fx sz f (by rw [e4]; exact e1)
        · exact .cl (.any _)
  | agg => exact .cl (.any _)
  | tup => exact .cl (.any _)
  | clo => exact .cl (.any _)

theorem ren_step {F : Nat → Prop} {r : AV → AV} {B B' : Nat → Blk} (hr : ∀ x v, Rep w F β B x v → Rep w F β B' (r x) v) :
    (∀ cs v, Rep w F β B (.agg cs) v → Rep w F β B' (.agg (mapL r cs)) v) ∧ (∀ cs v, Rep w F β B (.tup cs) v → Rep w F β B' (.tup (mapL r cs)) v) ∧ (∀ f cs v, Rep w F β B (.clo f cs) v → Rep w F β B' (.clo f (mapL r cs)) v) := by
  have get : ∀ {cs : List AV} {j : Nat} {y : AV}, (mapL r cs)[j]? = some y → ∃ x, cs[j]? = some x ∧ y = r x := fun {cs j y} h => by
    rw [mapL_eq, List.getElem?_map, Option.map_eq_some_iff] at h
    obtain ⟨x, hx, rfl⟩ := h
    exact ⟨x, hx, rfl⟩
  refine ⟨fun cs v h => ?_, fun cs v h => ?_, fun f cs v h => ?_⟩
  · obtain ⟨vs, us, rfl, h0, hc, hrr⟩ := h.agg_inv
    refine .agg _ vs us (by rw [h0, mapL_eq, List.length_map]) (fun j y hy => ?_) (fun j y hy => ?_)
    all_goals obtain ⟨x, hx, rfl⟩ := get hy
    · exact hc j x hx
    · exact hr _ _ (hrr j x hx)
  · obtain ⟨vs, us, rfl, h0, hc, hrr⟩ := h.tup_inv
    refine .tup _ vs us (by rw [h0, mapL_eq, List.length_map]) (fun j y hy => ?_) (fun j y hy => ?_)
    all_goals obtain ⟨x, hx, rfl⟩ := get hy
    · exact hc j x hx
    · exact hr _ _ (hrr j x hx)
  · obtain ⟨vs, us, rfl, h0, hc, hrr⟩ := h.clo_inv
    refine .clo _ _ vs us (by rw [h0, mapL_eq, List.length_map]) (fun j y hy => ?_) (fun j y hy => ?_)
    all_goals obtain ⟨x, hx, rfl⟩ := get hy
    · exact hc j x hx
    · exact hr _ _ (hrr j x hx)
theorem ren1_rep {F : Nat → Prop} {x : AV} {v : Value} (h : Rep w F β σ.B x v) : Rep w F β (regS σ).B (ren1 σ.B x) v := by
  obtain ⟨k1, k2, k3⟩ := ren_step (w := w) (β := β) (F := F) (r := ren0 σ.B) (B := σ.B) (B' := (regS σ).B) (fun x v h => ren0_rep h)
  unfold ren1
  split
  · exact k1 _ _ h
  · exact k2 _ _ h
  · exact k3 _ _ _ h
  · exact ren0_rep h
theorem ren2_rep {F : Nat → Prop} {x : AV} {v : Value} (h : Rep w F β σ.B x v) : Rep w F β (regS σ).B (ren2 σ.B x) v := by
  obtain ⟨k1, k2, k3⟩ := ren_step (w := w) (β := β) (F := F) (r := ren1 σ.B) (B := σ.B) (B' := (regS σ).B) (fun x v h => ren1_rep h)
  unfold ren2
  split
  · exact k1 _ _ h
  · exact k2 _ _ h
  · exact k3 _ _ _ h
  · exact ren0_rep h

theorem Rel.regS (h : Rel cx β σ a w) (hk : ∀ x v, cx.K = some (x, v) → (∃ n, x = .sl ioId 1 n) ∨ ∃ o, x = .pb ioId 1 o) : Rel cx β (regS σ) a w := by
  have hF : Fr cx w β (AB.regS σ).B = Fr cx w β σ.B := regS_Fr
  have hne : ∀ d, (AB.regS σ).B d ≠ .none → σ.B d ≠ .none := fun d hd hc => hd (by rw [regS_B, hc]; rfl)
  refine ⟨?_, fun i v hv => ?_, h.df, fun d => ?_, fun d hd => h.own d ((regS_live σ d).1 hd), fun d d' hd hd' => h.inj d d' ((regS_live σ d).1 hd) ((regS_live σ d').1 hd'), fun d hd hnl => ?_, h.bel, h.bas, h.hS, fun x v e => ?_⟩
  · rw [h.len]; simp [AB.regS, mapL_eq]
  · rw [hF]
    have hi : i < σ.s.length := by rw [← h.len]; exact (Array.getElem?_eq_some_iff.1 hv).1
    have h1 := h.slots i v hv
    rw [getS_eq, List.getElem?_eq_getElem hi] at h1
    have e : getS i (AB.regS σ).s = ren2 σ.B σ.s[i] := by simp [getS_eq, AB.regS, mapL_eq, hi]
    rw [e]
    exact ren2_rep h1
  · have hbk := h.blk d
    unfold BlkOK at hbk ⊢
    rw [regS_B, hF]
    cases hB : σ.B d with
    | none => trivial
    | box fz g cs =>
      rw [hB] at hbk
      obtain ⟨c, t, fr, q1, q2, q3, q4⟩ := hbk
      refine ⟨c, t, fr, q1, by rw [q2, mapL_eq, List.length_map], q3, fun j y hy => ?_⟩
      rw [mapL_eq, List.getElem?_map, Option.map_eq_some_iff] at hy
      obtain ⟨x, hx, rfl⟩ := hy
      obtain ⟨z, hz, hr⟩ := q4 j x hx
      exact ⟨z, hz, ren1_rep hr⟩
    | arr fz fx g sz n f =>
      rw [hB] at hbk
      exact hbk
  · rw [hF]; exact h.fro d (hne d hd) (fun hl => hnl ((regS_live σ d).2 hl))
  · rw [hF]
    have := ren0_rep (h.kp x v e)
    rcases hk x v e with ⟨n, rfl⟩ | ⟨o, rfl⟩ <;> simpa [ren0, eqN_refl] using this
end
end AB
end
section
namespace AB
open Go

def mv0 (r : Nat → Option Nat) : AV → AV
  | .sl d g n => match r d with
    | some e => .sl e g n
    | none => .any
  | .pb d g o => match r d with
    | some e => .pb e g o
    | none => .any
  | .pe d g n i o => match r d with
    | some e => .pe e g n i o
    | none => .any
  | .val v => .val v
  | .lst n f => .lst n f
  | .fp cs o => .fp cs o
  | _ => .any
def mv1 (r : Nat → Option Nat) : AV → AV
  | .agg cs => .agg (mapL (mv0 r) cs)
  | .tup cs => .tup (mapL (mv0 r) cs)
  | .clo f cs => .clo f (mapL (mv0 r) cs)
  | a => mv0 r a
def mv2 (r : Nat → Option Nat) : AV → AV
  | .agg cs => .agg (mapL (mv1 r) cs)
  | .tup cs => .tup (mapL (mv1 r) cs)
  | .clo f cs => .clo f (mapL (mv1 r) cs)
  | a => mv0 r a
def mvX (r : Nat → Option Nat) : Blk → Blk
  | .none => .none
  | .box fz g cs => .box fz g (mapL (mv1 r) cs)
  | .arr fz fx g sz n f => .arr fz fx g sz n f
def mvL (r : Nat → Option Nat) : List (Nat × Blk) → List (Nat × Blk)
  | [] => []
  | (d, x) :: l => match r d with
    | some e => (e, mvX r x) :: mvL r l
    | none => mvL r l
def mvS (r : Nat → Option Nat) (σ : St) : St := ⟨mapL (mv2 r) σ.s, mvL r σ.b⟩

/-- the numbers: from, to -/
def fstOf (d : Nat) : List (Nat × Nat) → Option Nat
  | [] => none
  | (x, y) :: l => match eqN x d with
    | true => some y
    | false => fstOf d l
def sndIn (e : Nat) : List (Nat × Nat) → Bool
  | [] => false
  | (_, y) :: l => match eqN y e with
    | true => true
    | false => sndIn e l
def rN (l : List (Nat × Nat)) (d : Nat) : Option Nat :=
  match fstOf d l with
  | some e => some e
  | none => match sndIn d l with
    | true => none
    | false => some d
def swapN : List (Nat × Nat) → List (Nat × Nat)
  | [] => []
  | (x, y) :: l => (y, x) :: swapN l
def okRN : List (Nat × Nat) → Bool
  | [] => true
  | (x, y) :: l => match fstOf x l, sndIn y l, eqN x ioId, eqN y ioId with
    | none, false, false, false => okRN l
    | _, _, _, _ => false

theorem sndIn_iff {e : Nat} : ∀ {l : List (Nat × Nat)}, sndIn e l = true ↔ ∃ x, (x, e) ∈ l
  | [] => by simp [sndIn]
  | (x, y) :: l => by
    unfold sndIn
    by_cases h : y = e
    · subst h; rw [eqN_refl]; exact ⟨fun _ => ⟨x, by simp⟩, fun _ => rfl⟩
    · rw [beq_ne h]
      simp only
      rw [sndIn_iff]
      exact ⟨fun ⟨z, hz⟩ => ⟨z, by simp [hz]⟩, fun ⟨z, hz⟩ => by
        rcases List.mem_cons.1 hz with hz | hz
        · simp only [Prod.mk.injEq] at hz; exact absurd hz.2.symm h
        · exact ⟨z, hz⟩⟩
theorem fstOf_none {d : Nat} : ∀ {l : List (Nat × Nat)}, fstOf d l = none ↔ ∀ y, (d, y) ∉ l
  | [] => by simp [fstOf]
  | (x, y) :: l => by
    unfold fstOf
    by_cases h : x = d
    · subst h; rw [eqN_refl]
      constructor
      · intro hc; cases hc
      · intro hc; exact absurd (List.mem_cons_self) (hc y)
    · rw [beq_ne h]
      simp only
      rw [fstOf_none]
      constructor
      · intro hc z hz
        rcases List.mem_cons.1 hz with hz | hz
        · simp only [Prod.mk.injEq] at hz; exact h hz.1.symm
        · exact hc z hz
      · intro hc z hz; exact hc z (by simp [hz])
theorem fstOf_mem {d e : Nat} : ∀ {l : List (Nat × Nat)}, fstOf d l = some e → (d, e) ∈ l
  | [], h => by simp [fstOf] at h
  | (x, y) :: l, h => by
    unfold fstOf at h
    by_cases hx : x = d
    · subst hx; rw [eqN_refl] at h; simp only [Option.some.injEq] at h; subst h; simp
    · rw [beq_ne hx] at h; exact List.mem_cons_of_mem _ (fstOf_mem h)
theorem okRN_fst {d e e' : Nat} : ∀ {l : List (Nat × Nat)}, okRN l = true → (d, e) ∈ l → (d, e') ∈ l → e = e'
  | [], _, h, _ => by simp at h
  | (x, y) :: l, hk, h, h' => by
    unfold okRN at hk
    split at hk
    · rename_i h1 h2 _ _
      rcases List.mem_cons.1 h with p | p <;> rcases List.mem_cons.1 h' with p' | p'
      · simp only [Prod.mk.injEq] at p p'; omega
      · simp only [Prod.mk.injEq] at p; obtain ⟨rfl, rfl⟩ := p; exact absurd p' (fstOf_none.1 h1 _)
      · simp only [Prod.mk.injEq] at p'; obtain ⟨rfl, rfl⟩ := p'; exact absurd p (fstOf_none.1 h1 _)
      · exact okRN_fst hk p p'
    · cases hk
theorem okRN_snd {d d' e : Nat} : ∀ {l : List (Nat × Nat)}, okRN l = true → (d, e) ∈ l → (d', e) ∈ l → d = d'
  | [], _, h, _ => by simp at h
  | (x, y) :: l, hk, h, h' => by
    unfold okRN at hk
    split at hk
    · rename_i h1 h2 _ _
      have h2' : ¬ ∃ z, (z, y) ∈ l := fun hc => by rw [sndIn_iff.2 hc] at h2; cases h2
      rcases List.mem_cons.1 h with p | p <;> rcases List.mem_cons.1 h' with p' | p'
      · simp only [Prod.mk.injEq] at p p'; omega
      · simp only [Prod.mk.injEq] at p; obtain ⟨rfl, rfl⟩ := p; exact absurd ⟨_, p'⟩ h2'
      · simp only [Prod.mk.injEq] at p'; obtain ⟨rfl, rfl⟩ := p'; exact absurd ⟨_, p⟩ h2'
      · exact okRN_snd hk p p'
    · cases hk
theorem okRN_io : ∀ {l : List (Nat × Nat)}, okRN l = true → ∀ x y, (x, y) ∈ l → x ≠ ioId ∧ y ≠ ioId
  | [], _, x, y, h => by simp at h
  | (x, y) :: l, hk, u, v, h => by
    unfold okRN at hk
    split at hk
    · rename_i _ _ h3 h4
      rcases List.mem_cons.1 h with p | p
      · simp only [Prod.mk.injEq] at p
        rw [p.1, p.2]
        refine ⟨fun hc => ?_, fun hc => ?_⟩
        · rw [hc, eqN_refl] at h3; cases h3
        · rw [hc, eqN_refl] at h4; cases h4
      · exact okRN_io hk u v p
    · cases hk
/-- from and to, as a relation -/
theorem rN_iff {l : List (Nat × Nat)} (hk : okRN l = true) {d e : Nat} : rN l d = some e ↔ ((d, e) ∈ l ∨ ((∀ y, (d, y) ∉ l) ∧ (∀ x, (x, d) ∉ l) ∧ e = d)) := by
  unfold rN
  cases hf : fstOf d l with
  | some e0 =>
    simp only [Option.some.injEq]
    have hm := fstOf_mem hf
    constructor
    · rintro rfl; exact .inl hm
    · rintro (h | ⟨h, -⟩)
      · exact okRN_fst hk hm h
      · exact absurd hm (h _)
  | none =>
    have hn := fstOf_none.1 hf
    simp only
    cases hs : sndIn d l with
    | true =>
      simp only [reduceCtorEq, false_iff]
      rintro (h | ⟨-, h, -⟩)
      · exact hn _ h
      · obtain ⟨x, hx⟩ := sndIn_iff.1 hs; exact h x hx
    | false =>
      simp only [Option.some.injEq]
      have hs' : ∀ x, (x, d) ∉ l := fun x hx => by rw [sndIn_iff.2 ⟨x, hx⟩] at hs; cases hs
      constructor
      · rintro rfl; exact .inr ⟨hn, hs', rfl⟩
      · rintro (h | ⟨-, -, h⟩)
        · exact absurd h (hn _)
        · exact h.symm
theorem rN_inj {l : List (Nat × Nat)} (hk : okRN l = true) {d d' e : Nat} (h : rN l d = some e) (h' : rN l d' = some e) : d = d' := by
  rw [rN_iff hk] at h h'
  rcases h with h | ⟨h1, h2, rfl⟩ <;> rcases h' with h' | ⟨h1', h2', rfl⟩
  · exact okRN_snd hk h h'
  · exact absurd h (h2' _)
  · exact absurd h' (h2 _)
  · rfl
theorem rN_io {l : List (Nat × Nat)} (hk : okRN l = true) : rN l ioId = some ioId := by
  rw [rN_iff hk]
  exact .inr ⟨fun y hy => (okRN_io hk _ _ hy).1 rfl, fun x hx => (okRN_io hk _ _ hx).2 rfl, rfl⟩

section
variable {cx : Cx} {β : Nat → Nat × Nat} {σ : St} {a : Act} {w : World} {r : Nat → Option Nat}

theorem mvL_get (hi : ∀ d d' e, r d = some e → r d' = some e → d = d') {d e : Nat} (h : r d = some e) : ∀ (b : List (Nat × Blk)), getB e (mvL r b) = mvX r (getB d b)
  | [] => rfl
  | (x, y) :: l => by
    simp only [mvL, getB]
    by_cases hx : x = d
    · subst hx
      rw [h, eqN_refl]
      simp only [getB, eqN_refl]
    · rw [beq_ne hx]
      cases hr : r x with
      | none => exact mvL_get hi h l
      | some z =>
        have hz : z ≠ e := fun hc => by subst hc; exact hx (hi _ _ _ hr h)
        simp only [getB, beq_ne hz]
        exact mvL_get hi h l
theorem mvL_none {e : Nat} (h : ∀ d, r d ≠ some e) : ∀ (b : List (Nat × Blk)), getB e (mvL r b) = .none
  | [] => rfl
  | (x, y) :: l => by
    simp only [mvL]
    cases hr : r x with
    | none => exact mvL_none h l
    | some z =>
      have hz : z ≠ e := fun hc => by subst hc; exact h _ hr
      simp only [getB, beq_ne hz]
      exact mvL_none h l

/-- where the blocks are, under the new numbers -/
noncomputable def mvβ (r : Nat → Option Nat) (β : Nat → Nat × Nat) : Nat → Nat × Nat := by
  classical exact fun e => if h : ∃ d, r d = some e then β h.choose else (0, 0)
theorem mvβ_eq (hi : ∀ d d' e, r d = some e → r d' = some e → d = d') {d e : Nat} (h : r d = some e) : mvβ r β e = β d := by
  have hh : ∃ d, r d = some e := ⟨d, h⟩
  unfold mvβ
  rw [dif_pos hh]
  rw [hi _ _ _ hh.choose_spec h]

theorem mvX_gen {x : Blk} : (mvX r x).gen = x.gen := by cases x <;> rfl
theorem mvX_arr {x : Blk} {fz fx : Bool} {g sz : Nat} {n : Int} {f : Int → List AV} (h : mvX r x = .arr fz fx g sz n f) : x = .arr fz fx g sz n f := by
  cases x <;> simp only [mvX, reduceCtorEq] at h
  exact h
theorem mvX_box {x : Blk} {fz : Bool} {g : Nat} {cs : List AV} (h : mvX r x = .box fz g cs) : ∃ cs0, x = .box fz g cs0 ∧ cs = mapL (mv1 r) cs0 := by
  cases x <;> simp only [mvX, reduceCtorEq, Blk.box.injEq] at h
  obtain ⟨rfl, rfl, rfl⟩ := h
  exact ⟨_, rfl, rfl⟩
theorem mvX_live {x : Blk} : isLive (mvX r x) ↔ isLive x := by
  cases x with
  | none => exact Iff.rfl
  | box fz g cs => simp only [mvX]; rw [isLive_box, isLive_box]
  | arr fz fx g sz n f => exact Iff.rfl

theorem mv0_rep (hi : ∀ d d' e, r d = some e → r d' = some e → d = d') {F : Nat → Prop} {x : AV} {v : Value} (h : Rep w F β σ.B x v) : Rep w F (mvβ r β) (mvS r σ).B (mv0 r x) v := by
  have hB : ∀ {d e : Nat}, r d = some e → (mvS r σ).B e = mvX r (σ.B d) := fun h => mvL_get hi h σ.b
  cases h with
  | cl h =>
    cases h with
    | val => exact .cl (.val _)
    | any => exact .cl (.any _)
    | lstE => exact .cl (.lstE ..)
    | lst len n f blk off c sz us hn hF hlc hl hc h1 hr => exact .cl (.lst len n f blk off c sz us hn hF hlc hl hc h1 hr)
    | fp cs o blk off us hF hc hr => exact .cl (.fp cs o blk off us hF hc hr)
    | agg => exact .cl (.any _)
    | tup => exact .cl (.any _)
    | clo => exact .cl (.any _)
  | sl d g n v h0 h1 h2 h3 =>
    simp only [mv0]
    cases hr : r d with
    | none => exact .cl (.any _)
    | some e =>
      refine .sl e g n v h0 (by rw [hB hr, mvX_gen]; exact h1) (fun fz fx sz n0 f hb => ?_) (fun fz fx sz f hb => ?_)
      · rw [hB hr] at hb; exact h2 _ _ _ _ _ (mvX_arr hb)
      · rw [hB hr] at hb; rw [mvβ_eq hi hr]; exact h3 _ _ _ _ (mvX_arr hb)
  | pb d g o v h0 h1 h3 =>
    simp only [mv0]
    cases hr : r d with
    | none => exact .cl (.any _)
    | some e =>
      refine .pb e g o v h0 (by rw [hB hr, mvX_gen]; exact h1) (fun fz cs hb => ?_)
      rw [hB hr] at hb
      obtain ⟨cs0, e1, -⟩ := mvX_box hb
      rw [mvβ_eq hi hr]; exact h3 _ _ e1
  | pe d g n i o v h0 h1 h2 h3 =>
    simp only [mv0]
    cases hr : r d with
    | none => exact .cl (.any _)
    | some e =>
      refine .pe e g n i o v h0 (by rw [hB hr, mvX_gen]; exact h1) (fun fz fx sz n0 f hb => ?_) (fun fz fx sz f hb => ?_)
      · rw [hB hr] at hb; exact h2 _ _ _ _ _ (mvX_arr hb)
      · rw [hB hr] at hb; rw [mvβ_eq hi hr]; exact h3 _ _ _ _ (mvX_arr hb)
  | agg => exact .cl (.any _)
  | tup => exact .cl (.any _)
  | clo => exact .cl (.any _)

theorem mv_step {F : Nat → Prop} {q : AV → AV} {B B' : Nat → Blk} {β' : Nat → Nat × Nat} (hr : ∀ x v, Rep w F β B x v → Rep w F β' B' (q x) v) :
    (∀ cs v, Rep w F β B (.agg cs) v → Rep w F β' B' (.agg (mapL q cs)) v) ∧ (∀ cs v, Rep w F β B (.tup cs) v → Rep w F β' B' (.tup (mapL q cs)) v) ∧ (∀ f cs v, Rep w F β B (.clo f cs) v → Rep w F β' B' (.clo f (mapL q cs)) v) := by
  have get : ∀ {cs : List AV} {j : Nat} {y : AV}, (mapL q cs)[j]? = some y → ∃ x, cs[j]? = some x ∧ y = q x := fun {cs j y} h => by
    rw [mapL_eq, List.getElem?_map, Option.map_eq_some_iff] at h
    obtain ⟨x, hx, rfl⟩ := h
    exact ⟨x, hx, rfl⟩
  refine ⟨fun cs v h => ?_, fun cs v h => ?_, fun f cs v h => ?_⟩
  · obtain ⟨vs, us, rfl, h0, hc, hrr⟩ := h.agg_inv
    refine .agg _ vs us (by rw [h0, mapL_eq, List.length_map]) (fun j y hy => ?_) (fun j y hy => ?_)
    all_goals obtain ⟨x, hx, rfl⟩ := get hy
    · exact hc j x hx
    · exact hr _ _ (hrr j x hx)
  · obtain ⟨vs, us, rfl, h0, hc, hrr⟩ := h.tup_inv
    refine .tup _ vs us (by rw [h0, mapL_eq, List.length_map]) (fun j y hy => ?_) (fun j y hy => ?_)
    all_goals obtain ⟨x, hx, rfl⟩ := get hy
    · exact hc j x hx
    · exact hr _ _ (hrr j x hx)
  · obtain ⟨vs, us, rfl, h0, hc, hrr⟩ := h.clo_inv
    refine .clo _ _ vs us (by rw [h0, mapL_eq, List.length_map]) (fun j y hy => ?_) (fun j y hy => ?_)
    all_goals obtain ⟨x, hx, rfl⟩ := get hy
    · exact hc j x hx
    · exact hr _ _ (hrr j x hx)
theorem mv1_rep (hi : ∀ d d' e, r d = some e → r d' = some e → d = d') {F : Nat → Prop} {x : AV} {v : Value} (h : Rep w F β σ.B x v) : Rep w F (mvβ r β) (mvS r σ).B (mv1 r x) v := by
  obtain ⟨k1, k2, k3⟩ := mv_step (w := w) (β := β) (F := F) (q := mv0 r) (B := σ.B) (B' := (mvS r σ).B) (β' := mvβ r β) (fun x v h => mv0_rep hi h)
  unfold mv1
  split
  · exact k1 _ _ h
  · exact k2 _ _ h
  · exact k3 _ _ _ h
  · exact mv0_rep hi h
theorem mv2_rep (hi : ∀ d d' e, r d = some e → r d' = some e → d = d') {F : Nat → Prop} {x : AV} {v : Value} (h : Rep w F β σ.B x v) : Rep w F (mvβ r β) (mvS r σ).B (mv2 r x) v := by
  obtain ⟨k1, k2, k3⟩ := mv_step (w := w) (β := β) (F := F) (q := mv1 r) (B := σ.B) (B' := (mvS r σ).B) (β' := mvβ r β) (fun x v h => mv1_rep hi h)
  unfold mv2
  split
  · exact k1 _ _ h
  · exact k2 _ _ h
  · exact k3 _ _ _ h
  · exact mv0_rep hi h

theorem Rel.mv (h : Rel cx β σ a w) (hk : ∀ x v, cx.K = some (x, v) → (∃ n, x = .sl ioId 1 n) ∨ ∃ o, x = .pb ioId 1 o) (hi : ∀ d d' e, r d = some e → r d' = some e → d = d') (hio : r ioId = some ioId) : Rel cx (mvβ r β) (mvS r σ) a w := by
  have hB : ∀ {d e : Nat}, r d = some e → (mvS r σ).B e = mvX r (σ.B d) := fun h => mvL_get hi h σ.b
  have hN : ∀ {e : Nat}, (∀ d, r d ≠ some e) → (mvS r σ).B e = .none := fun h => mvL_none h σ.b
  have hpre : ∀ e, (mvS r σ).B e ≠ .none → ∃ d, r d = some e := fun e he => Classical.byContradiction fun hc => he (hN fun d hd => hc ⟨d, hd⟩)
  have hlv : ∀ e, live (mvS r σ).B e → ∃ d, r d = some e ∧ live σ.B d := fun e he => by
    have hne : (mvS r σ).B e ≠ .none := fun hc => by rw [live_iff, hc] at he; exact he
    obtain ⟨d, hd⟩ := hpre e hne
    refine ⟨d, hd, ?_⟩
    rw [live_iff, hB hd, mvX_live] at he
    rw [live_iff]; exact he
  have hF : ∀ b, Fr cx w β σ.B b → Fr cx w (mvβ r β) (mvS r σ).B b := fun b ⟨h1, h2, h3⟩ => ⟨h1, h2, fun e he => by
    obtain ⟨d, hd, hl⟩ := hlv e he
    rw [mvβ_eq hi hd]; exact h3 d hl⟩
  have hm : ∀ {x : AV} {v : Value}, Rep w (Fr cx w β σ.B) (mvβ r β) (mvS r σ).B x v → Rep w (Fr cx w (mvβ r β) (mvS r σ).B) (mvβ r β) (mvS r σ).B x v := fun hx => hx.mono hF (fun _ _ _ => rfl) (Keep.refl _ _)
  refine ⟨?_, fun i v hv => ?_, h.df, fun e => ?_, fun e he => ?_, fun e e' he he' heq => ?_, fun e he hnl => ?_, h.bel, h.bas, h.hS, fun x v e => ?_⟩
  · rw [h.len]; simp [mvS, mapL_eq]
  · have hi' : i < σ.s.length := by rw [← h.len]; exact (Array.getElem?_eq_some_iff.1 hv).1
    have h1 := h.slots i v hv
    rw [getS_eq, List.getElem?_eq_getElem hi'] at h1
    have e : getS i (mvS r σ).s = mv2 r σ.s[i] := by simp [getS_eq, mvS, mapL_eq, hi']
    rw [e]
    exact hm (mv2_rep hi h1)
  · by_cases hex : ∃ d, r d = some e
    · obtain ⟨d, hd⟩ := hex
      have hbk := h.blk d
      unfold BlkOK at hbk ⊢
      rw [hB hd, mvβ_eq hi hd]
      cases hb : σ.B d with
      | none => trivial
      | box fz g cs =>
        rw [hb] at hbk
        obtain ⟨c, t, fr, q1, q2, q3, q4⟩ := hbk
        refine ⟨c, t, fr, q1, by rw [q2, mapL_eq, List.length_map], q3, fun j y hy => ?_⟩
        rw [mapL_eq, List.getElem?_map, Option.map_eq_some_iff] at hy
        obtain ⟨x, hx, rfl⟩ := hy
        obtain ⟨z, hz, hr⟩ := q4 j x hx
        exact ⟨z, hz, hm (mv1_rep hi hr)⟩
      | arr fz fx g sz n f =>
        rw [hb] at hbk
        obtain ⟨c, t, fr, len, k0, k1, k2, k3, k4, k5, k6, k7⟩ := hbk
        exact ⟨c, t, fr, len, k0, k1, k2, k3, k4, k5, k6, fun i hi => ⟨(k7 i hi).1, fun j x hx => let ⟨y, h1, h2, h3⟩ := (k7 i hi).2 j x hx; ⟨y, h1, h2, h3.mono hF (fun _ _ _ => rfl)⟩⟩⟩
    · unfold BlkOK
      rw [hN (fun d hd => hex ⟨d, hd⟩)]; trivial
  · obtain ⟨d, hd, hl⟩ := hlv e he
    rw [mvβ_eq hi hd]
    rcases h.own d hl with h1 | ⟨h1, h2⟩
    · exact .inl h1
    · subst h1
      rw [hio, Option.some.injEq] at hd
      exact .inr ⟨hd.symm, h2⟩
  · obtain ⟨d, hd, hl⟩ := hlv e he
    obtain ⟨d', hd', hl'⟩ := hlv e' he'
    rw [mvβ_eq hi hd, mvβ_eq hi hd'] at heq
    have := h.inj d d' hl hl' heq
    subst this
    rw [hd] at hd'; exact Option.some.inj hd'
  · obtain ⟨d, hd⟩ := hpre e he
    rw [mvβ_eq hi hd]
    refine hF _ (h.fro d (fun hc => he (by rw [hB hd, hc]; rfl)) (fun hl => hnl ?_))
    rw [live_iff, hB hd, mvX_live]
    rw [live_iff] at hl; exact hl
  · have := hm (mv0_rep hi (h.kp x v e))
    rcases hk x v e with ⟨n, rfl⟩ | ⟨o, rfl⟩ <;> simpa [mv0, hio] using this
end

/-- .. weaker, under other numbers -/
def WkR (l : List (Nat × Nat)) (σ σ' : St) : Prop :=
  match okRN l with
  | true => Wk (mvS (rN l) (regS σ)) σ'
  | false => False
theorem Rel.wkR {cx : Cx} {β : Nat → Nat × Nat} {σ σ' : St} {a : Act} {w : World} {l : List (Nat × Nat)} (h : Rel cx β σ a w) (hk : ∀ x v, cx.K = some (x, v) → (∃ n, x = .sl ioId 1 n) ∨ ∃ o, x = .pb ioId 1 o) (hw : WkR l σ σ') : ∃ β', Rel cx β' σ' a w := by
  unfold WkR at hw
  split at hw
  · rename_i hl
    exact ⟨_, ((h.regS hk).mv hk (fun d d' e h h' => rN_inj hl h h') (rN_io hl)).weak hk hw⟩
  · exact hw.elim
end AB
end
