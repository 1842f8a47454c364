/- Part 6 of the proof: an abstract machine over the translated code, the functions' contracts, and the plain law. -/
import Derived.Lib.ConvBytes
import Derived.Test.YtpodjaolnceggaaDoorM5
set_option linter.unusedSimpArgs false
set_option linter.unusedVariables false
set_option linter.unusedSectionVars false
section
namespace AB
open Go

section
variable {cx : Cx} {β : Nat → Nat × Nat} {σ : St} {a : Act} {w : World}

theorem ev_int (h : Rel cx β σ a w) (lo : Option Operand) : ∀ x k i, lo = some x → σ.ev x = .val (.int k i) → a.eval x = .int k i :=
  fun _ _ _ _ hx => (hx ▸ h.ev _).val_inv

/-- A cut of a slice that reads as a list. -/
theorem RepC.cut {F : Nat → Prop} {n l hh : Int} {f : Int → List AV} {A : Option Addr} {len c sz : Nat} (h : RepC w F (.lst n f) (.slice A len c)) (hc : 0 ≤ l ∧ l ≤ hh ∧ hh ≤ n) (hsz : ∀ i : Int, 0 ≤ i → i < n → (f i).length = sz) :
    RepC w F (.lst (hh - l) (fun i => f (l + i))) (.slice (if c = l.toNat then A else A.map (·.add (l.toNat * sz))) (hh.toNat - l.toNat) (c - l.toNat)) := by
  obtain ⟨c1, c2, c3⟩ := hc
  by_cases he : hh = l
  · subst he
    rw [Int.sub_self, Nat.sub_self]
    exact .lstE _ _ _
  · generalize hv : Value.slice A len c = v at h
    cases h with
    | lstE f A c => omega
    | lst len' n f blk off c' sz' us hn hF hlc hl hcc h1 hr =>
      simp only [Value.slice.injEq] at hv
      obtain ⟨rfl, rfl, rfl⟩ := hv
      have hne : ¬ (c = l.toNat) := by omega
      have hs : sz' = sz := by
        have h1 := hl l.toNat (by omega)
        have h2 := hsz l c1 (by omega)
        have h3 : ((l.toNat : Nat) : Int) = l := by omega
        rw [h3] at h1; omega
      subst hs
      rw [if_neg hne]
      simp only [Option.map_some, add_off]
      have hcast : ∀ i : Nat, l + (i : Int) = ((l.toNat + i : Nat) : Int) := fun i => by omega
      refine .lst (hh.toNat - l.toNat) _ _ blk (off + l.toNat * sz') _ sz' (fun i j => us (l.toNat + i) j) (by omega) hF (by omega) (fun i hi => ?_) (fun i hi j x hx => ?_) (fun i hi j x hx => ?_) (fun i hi j x hx => ?_)
      · simp only [hcast]; exact hl _ (by omega)
      · simp only [hcast] at hx
        have := hcc _ (by omega) j x hx
        rw [Nat.add_mul] at this
        rw [← this]; congr 2; omega
      · simp only [hcast] at hx
        exact h1 _ (by omega) j x hx
      · simp only [hcast] at hx
        exact hr _ (by omega) j x hx

theorem run_sliceAt_sl {P : Program} {t e : TypeId} {ie : TypeInfo} (hue : P.underlying t = some (.slice e)) (hie : P.info? e = some ie) {A : Option Addr} {len c : Nat} {lo hi : Option Value} {l h : Nat}
    (hb : (Instr.sliceBounds true len c lo hi none).run P w = .ok (l, h, c) w) : (Instr.sliceAt t (.slice A len c) lo hi none).run P w = .ok (.slice (if c = l then A else A.map (·.add (l * ie.size))) (h - l) (c - l)) w := by
  simp only [Instr.sliceAt, Instr.slice, Sem.run_bind, run_underlying hue, Result.andThen_ok, hb, run_sizeOf hie, Sem.run_pure]

theorem slice_sound {T : Nat → Option TI} (hT : TOK cx.P T) (h : Rel cx β σ a w) {o : Oper} {t : Nat} {x : Operand} {lo hi mx : Option Operand} (ho : o.op = .slice t x lo hi mx) {pre : Prop} {v : AV} {upd : List (Nat × Blk)} {rd : List Nat}
    (hs : sliceF std T σ.B t (σ.ev x) (optMap σ.ev lo) (optMap σ.ev hi) (optMap σ.ev mx) = .ok pre v upd rd) (hp : pre) : Snd cx.P o cx σ a w v upd := by
  unfold sliceF at hs
  split at hs
  · rename_i ti hti hmx
    have hmx' : mx = none := by cases mx <;> simp [optMap] at hmx; rfl
    subst hmx'
    obtain ⟨inf, z, hinf, hz, hsz, hby, hzc, hd, ud, hu, hag⟩ := tok_info hT hti
    split at hs
    · rename_i s hdesc hx
      split at hs
      · rename_i l hh hcut
        simp only [SR.ok.injEq] at hs
        obtain ⟨rfl, rfl, rfl, -⟩ := hs
        have hxv := (hx ▸ h.ev x).val_inv
        have hb := bounds_ok (P := cx.P) (w := w) (isSl := false) (cap := s.size) (len := s.size) a.eval (ev_int h lo) (ev_int h hi) hcut rfl (Nat.le_refl _) hp
        refine Snd.pure h (u := .string (s.extract l.toNat hh.toNat)) ?_ (.cl (.val _))
        unfold execOp
        simp only [ho, Instr.sliceAt, Instr.slice, Sem.run_bind, run_underlying (td_str (hd.trans hdesc)), Result.andThen_ok, hxv, Option.map_none, Option.isSome_none, Bool.false_eq_true, if_false, Sem.run_pure, hb]
      · cases hs
    · rename_i e n f hdesc hx
      have hue := td_sl (hd.trans hdesc)
      split at hs
      · rename_i l hh ei hcut hei
        obtain ⟨ie, ze, hie, hze, hse, _⟩ := tok_info hT hei
        simp only [SR.ok.injEq] at hs
        obtain ⟨rfl, rfl, rfl, -⟩ := hs
        obtain ⟨hc, hl⟩ := hp
        have hev := h.ev x
        rw [hx] at hev
        obtain ⟨A, len, c, he, hn, hlc⟩ := hev.lst_inv.lst_len
        rw [he] at hev
        have hb := bounds_ok (P := cx.P) (w := w) (isSl := true) (cap := c) (len := len) a.eval (ev_int h lo) (ev_int h hi) hcut hn hlc hc
        refine Snd.pure h (u := _) ?_ (.cl (RepC.cut hev.lst_inv hc (sz := ie.size) (fun i h0 h1 => by rw [hse, ← lenL_eq]; exact hl i ⟨h0, h1⟩)))
        unfold execOp
        simp only [ho, he, Option.map_none, Sem.run_bind, run_sliceAt_sl hue hie hb, Result.andThen_ok, Sem.run_pure]
      · cases hs
    · rename_i e d g n hdesc hx
      have hue := td_sl (hd.trans hdesc)
      split at hs
      · rename_i fz fx g' sz n' f hB
        split at hs
        · rename_i l hh ei hg hcut hei
          obtain rfl := eqN_eq hg
          obtain ⟨ie, ze, hie, hze, hse, _⟩ := tok_info hT hei
          split at hs
          · rename_i hsz'
            simp only [Bool.and_eq_true, Bool.not_eq_true'] at hsz'
            obtain ⟨hsz1, hio⟩ := hsz'
            have hsz1 := eqN_eq hsz1
            have hio : d ≠ ioId := fun hc => by rw [hc, eqN_refl] at hio; cases hio
            simp only [SR.ok.injEq] at hs
            obtain ⟨rfl, rfl, rfl, -⟩ := hs
            obtain ⟨rfl, hc⟩ := hp
            have hev := h.ev x
            rw [hx] at hev
            have he := hev.sl_inv.2.2 _ _ _ _ hB
            have hbk := h.blk d
            have hbk0 := hbk
            unfold BlkOK at hbk
            rw [hB] at hbk
            obtain ⟨cc, tt, fr, len, rfl, k1, k2, k3, k4, k5, k6, k7⟩ := hbk
            rw [Int.toNat_natCast] at he
            have hb := bounds_ok (P := cx.P) (w := w) (isSl := true) (cap := (β d).2) (len := len) a.eval (ev_int h lo) (ev_int h hi) hcut rfl k3 hc
            have hBd : getB d (setB d (.arr true fx g sz len f) σ.b) = .arr true fx g sz len f := by rw [getB_setB, if_pos rfl]
            have hBe : ∀ e, e ≠ d → getB e (setB d (.arr true fx g sz len f) σ.b) = σ.B e := fun e he => by rw [getB_setB, if_neg he]; rfl
            have hlv : ∀ e, live (fun e => getB e (setB d (.arr true fx g sz len f) σ.b)) e → e ≠ d ∧ live σ.B e := by
              intro e hle
              by_cases hed : e = d
              · subst hed; rw [live_iff, hBd] at hle; exact hle.elim
              · exact ⟨hed, by rw [live_iff] at hle ⊢; rw [hBe e hed] at hle; exact hle⟩
            have hF : ∀ b, Fr cx w β σ.B b → Fr cx w β (fun e => getB e (setB d (.arr true fx g sz len f) σ.b)) b := fun b ⟨h1, h2, h3⟩ => ⟨h1, h2, fun e hle => h3 e (hlv e hle).2⟩
            have hlt := hbk0.lt (by rw [hB]; intro hc; cases hc)
            have hFd : Fr cx w β (fun e => getB e (setB d (.arr true fx g sz len f) σ.b)) (β d).1 := by
              by_cases hld : live σ.B d
              · refine ⟨.inr ?_, hlt, fun e hle heq => (hlv e hle).1 (h.inj e d (hlv e hle).2 hld heq)⟩
                rcases h.own d hld with ho | ⟨ho, _⟩
                · exact ho
                · exact absurd ho hio
              · exact hF _ (h.fro d (by rw [hB]; intro hc; cases hc) hld)
            have hk : Keep β σ.B β (fun e => getB e (setB d (.arr true fx g sz len f) σ.b)) := by
              refine ⟨fun e => ?_, fun e g2 fz2 fx2 sz2 n2 f2 hb2 _ => ?_, fun e g2 fz2 cs2 hb2 _ => ?_⟩
              · by_cases hed : e = d
                · subst hed; simp only [hBd, hB]; exact Nat.le_refl _
                · simp only [hBe e hed]; exact Nat.le_refl _
              · by_cases hed : e = d
                · subst hed
                  simp only [hBd, Blk.arr.injEq] at hb2
                  obtain ⟨-, -, rfl, rfl, rfl, -⟩ := hb2
                  exact ⟨fz, fx, _, f, hB, Int.le_refl _, fun _ => rfl⟩
                · simp only [hBe e hed] at hb2
                  exact ⟨fz2, fx2, n2, f2, hb2, Int.le_refl _, fun _ => rfl⟩
              · by_cases hed : e = d
                · subst hed; simp only [hBd] at hb2; cases hb2
                · simp only [hBe e hed] at hb2
                  exact ⟨fz2, cs2, hb2, rfl⟩
            have hlst : RepC w (Fr cx w β (fun e => getB e (setB d (.arr true fx g sz len f) σ.b))) (.lst len f) (.slice (some ⟨(β d).1, 0, none⟩) len (β d).2) :=
              .lst len _ f (β d).1 0 _ sz (fun i j => (cc[i * sz + j]?).getD undef) rfl hFd k3 (fun i hi => (k7 i hi).1) (fun i hi j x hx => by
                obtain ⟨y, hy, _⟩ := (k7 i hi).2 j x hx
                rw [cell_of_row w _ _ cc tt fr k1, Nat.zero_add, hy]; rfl) (fun i hi j x hx => by
                obtain ⟨y, hy, h1, hr⟩ := (k7 i hi).2 j x hx
                rw [hy]; exact h1) (fun i hi j x hx => by
                obtain ⟨y, hy, h1, hr⟩ := (k7 i hi).2 j x hx
                rw [hy]; exact hr.mono hF (fun _ _ _ => rfl))
            have hcut' := RepC.cut hlst hc (sz := ie.size) (fun i h0 h1 => by
              have : i = ((i.toNat : Nat) : Int) := by omega
              rw [this, hse, ← hsz1]; exact (k7 i.toNat (by omega)).1)
            have hR := h.step (w' := w) (β' := β) (dst := o.dst) (b' := setB d (.arr true fx g sz len f) σ.b) hF (fun _ _ _ => rfl) hk (.cl hcut') (fun e => ?_) (fun e hle => h.own e (hlv e hle).2)
              (fun e e' he he' => h.inj e e' (hlv e he).2 (hlv e' he').2) (fun e he1 he2 => ?_) (BelowX.refl _ _ _)
            · refine ⟨.slice (if (β d).2 = l.toNat then some ⟨(β d).1, 0, none⟩ else (some ⟨(β d).1, 0, none⟩ : Option Addr).map (·.add (l.toNat * ie.size))) (hh.toNat - l.toNat) ((β d).2 - l.toNat), w, β, .inl ?_, ?_⟩
              · unfold execOp
                simp only [ho, he, Option.map_none, Sem.run_bind, run_sliceAt_sl hue hie hb, Result.andThen_ok, Sem.run_pure]
              · have hs' : (σ.put o.dst (AV.lst (std.nsub hh l) fun i => f (std.nadd l i))).b = σ.b := by cases o.dst <;> rfl
                simp only [St.upd, hs']
                exact hR
            · by_cases hed : e = d
              · subst hed
                right
                unfold BlkOK
                simp only [hBd]
                exact ⟨cc, tt, fr, len, rfl, k1, k2, k3, k4, k5, k6, fun i hi => ⟨(k7 i hi).1, fun j x hx => let ⟨y, h1, h2, h3⟩ := (k7 i hi).2 j x hx; ⟨y, h1, h2, h3.mono hF (fun _ _ _ => rfl)⟩⟩⟩
              · exact .inl ⟨hBe e hed, rfl, fun _ => rfl⟩
            · by_cases hed : e = d
              · rw [hed]; exact hFd
              · refine hF _ (h.fro e (by rw [← hBe e hed]; exact he1) (fun hl => he2 ?_))
                rw [live_iff] at hl ⊢
                simp only [hBe e hed]; exact hl
          · cases hs
        · cases hs
      · cases hs
    · cases hs
  · cases hs

end
end AB
end
