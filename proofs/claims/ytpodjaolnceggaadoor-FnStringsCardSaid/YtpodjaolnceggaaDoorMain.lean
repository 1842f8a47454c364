/- laws.FnStrings returns true for every slice of bytes, and its argument reads afterwards as before. Condition: the listed package variables hold what the program's text lays (the card's tie). -/
import Derived.Test.YtpodjaolnceggaaDoorTie
import Derived.Test.YtpodjaolnceggaaDoorCards
import Derived.ProofKit
import Derived.Lay
import Derived.HandedShaped
import Derived.SevenTiedAt
import Derived.Stop.LaidErr
import Derived.Test.YtpodjaolnceggaaDoorM16
set_option linter.unusedSimpArgs false
set_option linter.unusedVariables false
set_option linter.unusedSectionVars false
namespace Go.Proofs.YtpodjaolnceggaaDoor
open Go Go.ChangeShapes Go.WideShapes Go.ChangeAt Go.RowKit AB
set_option maxRecDepth 100000
/-- A row whose variables are listed, in a world of the program's shape. -/
theorem returns_laid_shaped {H : Type} {enc : TypeId × Value → H} {a : Assume} {C : Checked} {os : Os} {f : FuncId} {fn : Func} {s : ChangeSpec} {conds : List PathCond} {apart fresh handsOn again : Bool} {X : World → Array Value → Prop}
    (hX : ∀ (w w' : World) (args : Array Value), w.heap = w'.heap → X w args → X w' args)
    (own : ownKnob C.prog.godebug = none) (started : os.Started) (noInit : C.prog.inits.idxOf? f = none) (hfn : C.prog.funcs[f]? = some fn)
    (witness : ∃ (w : World) (tape : Tape) (i : Input), w.os = os ∧ (w.forCall tape i).Shaped C.prog ∧ i.vars = [] ∧ Input.okWide C.prog (w.forCall tape i) .any w.heap.size f i ∧
      ((s.pre enc C.prog fn conds apart (w.forCall tape i).memory i.args ∧ X (w.forCall tape i).memory i.args) ∧ sizedMet enc C.prog fn (OpenSpec.ofChange s) apart (w.forCall tape i).memory i.args) ∧ a.holds C.prog (lone (Frame.enter C.prog f i.args .normal) [] (w.forCall tape i)))
    (contract : ∀ (W : World) (base : Nat) (args : Array Value) (ds gs : List (DataW H)) (before : List MemPlace),
      (∀ (j : Nat) t v, fn.params[j]? = some t → args[j]? = some v → Value.okWide C.prog W .any base t v) →
      DataW.Whole enc C.prog fn.params.toList s.vars apart W args.toList ds gs before →
      X W args → W.ShapedOpen C.prog →
      Calls C.prog f args W fun e W' => ∃ v, e = .returned v ∧ s.post enc C.prog fn apart fresh handsOn again W args v W') :
    ReturnsInHanded a C os f .any (fun w args => (s.pre enc C.prog fn conds apart w args ∧ X w args) ∧ sizedMet enc C.prog fn (OpenSpec.ofChange s) apart w args) (s.post enc C.prog fn apart fresh handsOn again) := by
  refine returnsInHanded_of_calls own started noInit witness ?_
  intro w tape i _ hsh _ hok hpre _
  obtain ⟨_, _, _, fn', hfn', _, _, _, _, hval⟩ := hok
  have e : fn' = fn := Option.some.inj (hfn'.symm.trans hfn)
  subst e
  obtain ⟨⟨⟨ds, gs, before, hw, _⟩, hx⟩, _⟩ := hpre
  have hw' := DataW.Whole.of_heap (w' := w.forCall tape i) (by rfl) hw
  refine (contract (w.forCall tape i) w.heap.size i.args ds gs before hval hw' (hX _ _ _ (by rfl) hx) hsh).mono fun e W' ⟨v, he, hp⟩ => ?_
  subst he
  exact ChangeSpec.post_blind hp
theorem own : ownKnob Tryd.prog.godebug = none := by kernel_rfl
theorem laidOut : laidOutB Tryd.prog = true := by kernel_rfl
/-- all that was there at the call -/
def allOf (W : World) : GI := ⟨W.heap.size, fun b => W.heap[b]?⟩
theorem allOf_ok (W : World) : (allOf W).ok W := ⟨Nat.le_refl _, fun _ _ => rfl⟩
theorem ok_cell {W w : World} (h : (allOf W).ok w) {b o : Nat} {v : Value} (hv : W.cell? ⟨b, o, none⟩ = some v) : w.cell? ⟨b, o, none⟩ = some v := by
  have hb : b < W.heap.size := by
    unfold World.cell? at hv
    split at hv
    · rename_i h1; exact (Array.getElem?_eq_some_iff.1 h1).1
    all_goals cases hv
  have := h.2 b hb
  have e : w.heap[b]? = W.heap[b]? := this
  unfold World.cell? at *
  rw [e]; exact hv
/-- a slice of bytes that came in -/
theorem open_code {H : Type} {enc : TypeId × Value → H} {W : World} {base : Nat} {v : Value} {d : DataW H} {p : List MemPlace} (hval : Value.okWide Tryd.prog W .any base 22 v) (h : DataW.Trod enc Tryd.prog W 0 (fun _ => true) true 22 v d p) :
    ∃ (n : Int) (f : Int → Int), 0 ≤ n ∧ (∀ i, 0 ≤ i → i < n → 0 ≤ f i ∧ f i ≤ 255) ∧ RepC W (fun b => b < W.heap.size) (.lst n (fun k0 => [.val (.int .u8 (f k0))])) v := by
  obtain ⟨a1, len, cap, rfl⟩ := okWide_slice Tryd.underlying22 hval
  obtain ⟨fuel, hf⟩ := h
  rcases open_ints Tryd.underlying22 Tryd.underlying5 (by kernel_rfl) hf with ⟨hcs, hx⟩ | ⟨a, len', cap', zs, hcs, _, hl, hm, hz, hx, hcell, hwz⟩
  · simp [Value.cells] at hcs
    obtain ⟨rfl, rfl, rfl⟩ := hcs
    exact ⟨0, fun _ => 0, Int.le_refl _, fun i h0 h1 => by omega, .lstE _ _ _⟩
  · simp [Value.cells] at hcs
    obtain ⟨rfl, rfl, rfl⟩ := hcs
    simp only [if_true] at hz
    have hbd : ∀ i : Nat, 0 ≤ zs.getD i 0 ∧ zs.getD i 0 ≤ 255 := fun i => by
      by_cases hi : i < zs.length
      · have hw := hwz zs[i] (List.getElem_mem hi)
        have e : zs.getD i 0 = zs[i] := by rw [List.getD_eq_getElem?_getD, List.getElem?_eq_getElem hi]; rfl
        rw [e]
        simpa [Lit.wf, IntKind.min, IntKind.max, IntKind.signed, IntKind.bits] using hw
      · have e : zs.getD i 0 = 0 := by rw [List.getD_eq_getElem?_getD, List.getElem?_eq_none (by omega)]; rfl
        rw [e]; omega
    obtain ⟨ab, ao, spot⟩ := a
    by_cases hlen : len = 0
    · subst hlen
      exact ⟨0, fun _ => 0, Int.le_refl _, fun i h0 h1 => by omega, .lstE _ _ _⟩
    · have hspot : spot = none := by simpa [Addr.add] using World.cell?_spot (hcell 0 (by omega))
      subst hspot
      refine ⟨(len : Int), fun k => zs.getD k.toNat 0, by omega, fun i h0 h1 => hbd _, .lst len _ _ ab ao cap 1 (fun i _ => .int .u8 (zs.getD i 0)) rfl ?_ hl (fun _ _ => rfl) ?_ ?_ ?_⟩
      · have := hcell 0 (by omega)
        rw [Addr.add_lit] at this
        unfold World.cell? at this
        split at this
        · rename_i h1; exact (Array.getElem?_eq_some_iff.1 h1).1
        all_goals cases this
      · intro i hi j b hb
        have hj : j = 0 := by
          rcases j with _ | j
          · rfl
          · simp at hb
        subst hj
        have := hcell i (by omega)
        rw [Addr.add_lit] at this
        simpa using this
      · intro i hi j b hb; rfl
      · intro i hi j b hb
        have hj : j = 0 := by
          rcases j with _ | j
          · rfl
          · simp at hb
        subst hj
        simp only [List.getElem?_cons_zero, Option.some.injEq] at hb
        subst hb
        exact .val _
theorem g0 : Tryd.prog.globalNamed "internal/bytealg.MaxLen" = some 0 := by kernel_rfl
theorem g1 : Tryd.prog.globalNamed "strconv.ErrSyntax" = some 1 := by kernel_rfl
theorem g2 : Tryd.prog.globalNamed "strconv.ErrRange" = some 2 := by kernel_rfl
theorem g3 : Tryd.prog.globalNamed "internal/strconv.uint64pow10" = some 3 := by kernel_rfl
theorem g1t : (Tryd.prog.globals[1]?).map (·.type) = some 126 := by kernel_rfl
theorem g2t : (Tryd.prog.globals[2]?).map (·.type) = some 126 := by kernel_rfl
theorem g3t : (Tryd.prog.globals[3]?).map (·.type) = some 213 := by kernel_rfl
theorem star : "*" ++ "errors.errorString" = "*errors.errorString" := by decide
theorem rowES (u : TypeId) (h : Tryd.prog.typeName? 3 u = some "*errors.errorString") : u = 217 :=
  typeName_ptr_named (nm := "errors.errorString") (by rw [star]; kernel_rfl) (by kernel_rfl) (by decide) u (by rw [star]; exact h)
theorem env_of_laid {W : World} (hL : laidMetH Tryd.prog Rows.fnStringsRow.laid W) (hsh : W.ShapedOpen Tryd.prog) : S.Env (allOf W) := by
  rw [MakeChecks.laidMetH_plain _ _ _ (by kernel_rfl)] at hL
  have hT := hL.tail.tail
  have htab : Lib.TabIs Tryd.prog W "internal/strconv.uint64pow10" .u64 Lib.pow10Tab := Lib.tabIs_of_head g3 g3t Tryd.underlying213 Tryd.underlying102 (by kernel_rfl) (by kernel_rfl) hT
  obtain ⟨a2, s2, hv2, -, -, -⟩ := laid_sentinel hT.tail g2 g2t Tryd.underlying126 rowES Tryd.underlying217 Tryd.underlying219 rfl rfl Tryd.underlying9 (by kernel_rfl) (by kernel_rfl)
  obtain ⟨a1, s1, hv1, -, -, -⟩ := laid_sentinel hT.tail.tail g1 g1t Tryd.underlying126 rowES Tryd.underlying217 Tryd.underlying219 rfl rfl Tryd.underlying9 (by kernel_rfl) (by kernel_rfl)
  obtain ⟨m, hm⟩ := cell_of_shapedOpen_int (P := Tryd.prog) (g := 0) (t := 3) (zero := #[.int .i64 0]) hsh (of_decide_eq_true (by kernel_rfl)) (by kernel_rfl) rfl (by kernel_rfl) (by kernel_rfl) Tryd.underlying3
  have c1 : W.cell? ⟨1, 0, none⟩ = some (.iface 217 (.pointer (some a1))) := by have h0 := World.var?_cell g1 hv1 0; simpa using h0
  have c2 : W.cell? ⟨2, 0, none⟩ = some (.iface 217 (.pointer (some a2))) := by have h0 := World.var?_cell g2 hv2 0; simpa using h0
  refine ⟨fun w hw => ?_, ⟨m, fun w hw => ok_cell hw hm⟩, ⟨_, .inr ⟨_, _, rfl⟩, fun w hw => ok_cell hw c1⟩, ⟨_, .inr ⟨_, _, rfl⟩, fun w hw => ok_cell hw c2⟩⟩
  have hb : 3 < W.heap.size := by
    have := htab
    unfold Lib.TabIs World.var? at this
    rw [g3] at this
    simp only [Option.bind_some] at this
    split at this
    · rename_i h1; exact (Array.getElem?_eq_some_iff.1 h1).1
    all_goals cases this
  have e : w.heap[3]? = W.heap[3]? := hw.2 3 hb
  unfold Lib.TabIs World.var? at *
  rw [S.P, g3] at *
  simp only [Option.bind_some] at *
  rw [e]
  exact htab
/-- the law's call -/
theorem strings_calls {W : World} (hE : S.Env (allOf W)) {n : Int} {f : Int → Int} (hn : 0 ≤ n) (hf : ∀ i, 0 ≤ i → i < n → 0 ≤ f i ∧ f i ≤ 255) {v : Value} (hv : RepC W (fun b => b < W.heap.size) (.lst n (fun k0 => [.val (.int .u8 (f k0))])) v) :
    Calls Tryd.prog 4 #[v] W fun e W' => e = .returned (.bool true) ∧ Below W.heap.size W W' := by
  have hc := (S.laws_FnStrings_con (G := allOf W) 10000000 n f true (S.law_Strings n f hn hf)).2 W (fun b => b < W.heap.size) (0, 0) [v] (allOf_ok W) (fun _ h => h) ⟨rfl, fun j a ha => by
    rcases j with _ | j
    · simp only [List.getElem?_cons_zero, Option.some.injEq] at ha
      subst ha
      exact ⟨v, rfl, hv⟩
    · simp at ha⟩
  refine Calls.mono hc ?_
  rintro e W' ⟨u, us, bl, rfl, hs, hb, hr, _⟩
  have hus : us = [u] := hs
  subst hus
  obtain ⟨u', hu', hr'⟩ := hr.cl 0 (.val (.bool true)) rfl (by rintro ⟨_, _, _, _, h⟩; cases h)
  simp only [List.getElem?_cons_zero, Option.some.injEq] at hu'
  subst hu'
  cases hr'
  exact ⟨rfl, hb.os, hb.tape, hb.output, hb.size, fun k hk => hb.block k hk (fun h => h)⟩
theorem strings_lifted (os : Os) (started : os.Started) (H : Type) (enc : TypeId × Value → H) :
    ReturnsInHanded {} Tryd.checked os 4 .any (fun w args => (Rows.fnStringsSpec.pre enc Tryd.prog Tryd.f4 [] false w args ∧ laidMetH Tryd.prog Rows.fnStringsRow.laid w) ∧ sizedMet enc Tryd.prog Tryd.f4 (OpenSpec.ofChange Rows.fnStringsSpec) false w args)
      (Rows.fnStringsSpec.post enc Tryd.prog Tryd.f4 false true false false) := by
  refine returns_laid_shaped (C := Tryd.checked) (X := fun w _ => laidMetH Tryd.prog Rows.fnStringsRow.laid w) (fun _ _ _ hh h => h.of_heap hh) own started (by kernel_rfl) Tryd.func4
    (ChangeSpec.witness_shaped (enc := enc) (C := Tryd.checked) (os := os) (X := fun w _ => laidMetH Tryd.prog Rows.fnStringsRow.laid w) false (World.laidAll Tryd.prog os Rows.fnStringsRow.laid) #[.slice none 0 0] 8 (World.laidAll_os _ _ _)
      (World.shaped_of_ZipB (by kernel_rfl) (by kernel_rfl)) (by kernel_rfl) (by kernel_rfl) (by kernel_rfl)
      (by rw [MakeChecks.laidMetH_plain _ _ _ (by kernel_rfl)]; exact laidMet_laidAll _ (by kernel_rfl) (by kernel_rfl))) ?_
  intro W base args ds gs before hval0 hW hL hsh
  have hval : ∀ (j : Nat) t v, Tryd.f4.params[j]? = some t → args[j]? = some v → Value.okWide Tryd.prog W .any base t v := hval0
  have hW' := hW
  obtain ⟨p, q, hA0, hV, rfl, _, _⟩ := hW
  have hA : DataW.TrodAll enc Tryd.prog W 0 (fun _ => true) true Tryd.f4.params.toList args.toList ds p := hA0
  rw [Tryd.params4] at hA hval
  obtain ⟨v0, d0, rfl, rfl, h0⟩ := trodAll_one hA
  obtain ⟨rfl, rfl⟩ := trodVars_none hV
  obtain ⟨n, f, hn, hf, hv⟩ := open_code (hval 0 22 v0 rfl rfl) h0
  refine (strings_calls (env_of_laid hL hsh) hn hf hv).mono fun e W' ⟨he, hb⟩ => ?_
  subst he
  refine ⟨_, rfl, _, _, _, [], _, [], hW', trodAll_mk1 (shut_bool Tryd.underlying4 _), trodAll_mk1 (Below.trod laidOut (by kernel_rfl) (of_decide_eq_true (by kernel_rfl)) h0 hb ?_), rfl, hb.frame _, fun h => by cases h⟩
  intro x hx
  exact hW'.lt x (by simpa using hx)
theorem strings_holds : Rows.FnStringsSaid :=
  OpenClaim.holds_of_wide 4 Tryd.f4 rfl rfl rfl rfl rfl rfl rfl ⟨rfl, rfl, rfl, rfl, rfl⟩ rfl rfl rfl rfl rfl (by kernel_rfl) Tryd.func4 (by kernel_rfl)
    (of_decide_eq_true (by kernel_rfl)) (by unfold Func.isWrapper; rw [if_neg (of_decide_eq_false (by kernel_rfl))]; exact ⟨rfl, rfl⟩)
    (fun os started H enc _ => strings_lifted os started H enc)
/-- laws.FnStrings: the tied card. -/
theorem strings_card : Rows.FnStringsCardSaid :=
  Claim7.holds_tied_plain_at .later [] [.data, .data, .data, .sentinel, .sentinel] true (true, "d9d73d943df9f7e09e614a9385048491a7857c3dc02c873ea83c08210fe3a680") true strings_holds (fun _ h => by cases h) (by kernel_rfl) (fun _ h => by cases h) fnStrings_row_tie rfl ⟨rfl, rfl⟩ (by kernel_rfl) rfl
    (fun f fn hf hfn => by
      obtain rfl : f = 4 := Option.some.inj ((show Tryd.prog.funcNamed "loop.example/g01248/laws.FnStrings" = some 4 by kernel_rfl).symm.trans hf) |>.symm
      obtain rfl : fn = Tryd.f4 := (Option.some.inj (Tryd.func4.symm.trans hfn)).symm
      exact ⟨by kernel_rfl, fun j t ht => by
        rw [Tryd.params4] at ht
        have hm : t ∈ [22] := by simpa using Array.mem_of_getElem? ht
        have hall : ([22].all fun u => !Tryd.prog.wantsStandIn u) = true := by kernel_rfl
        exact (show Tryd.prog.wantsStandIn t = false by simpa using List.all_eq_true.1 hall t hm)⟩)
    (by kernel_rfl)
end Go.Proofs.YtpodjaolnceggaaDoor
