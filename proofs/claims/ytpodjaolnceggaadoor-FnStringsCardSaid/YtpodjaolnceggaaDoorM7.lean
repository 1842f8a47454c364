/- Part 7 of the proof: an abstract machine over the translated code, the functions' contracts, and the plain law. -/
import Derived.Laws.BytesString
import Derived.Test.YtpodjaolnceggaaDoorM6
set_option linter.unusedSimpArgs false
set_option linter.unusedVariables false
set_option linter.unusedSectionVars false
section
namespace AB
open Go

theorem run_storeCells_gen (P : Program) (g o : Nat) (t : TypeId) (fz : Nat × Nat) : ∀ (vs : List Value) (i : Nat) (cur : Array Value) (w : World), w.heap[g]? = some (.cells cur t fz) → (∀ j, j < cur.size → ¬ (fz.1 ≤ j ∧ j < fz.2)) → o + i + vs.length ≤ cur.size → (∀ v ∈ vs, v.oneCell' = true) →
    (storeCells ⟨g, o, none⟩ vs i).run P w = .ok () (w.setRow g (cur.toList.take (o + i) ++ vs ++ cur.toList.drop (o + i + vs.length)).toArray)
  | [], i, cur, w, hg, _, _, _ => by
    simp only [storeCells, List.append_nil, List.length_nil, Nat.add_zero, List.take_append_drop, Array.toArray_toList]
    rw [setRow_self w g cur t fz hg]
    rfl
  | v :: rest, i, cur, w, hg, hfz, hl, h1 => by
    have hi : o + i < cur.size := by simp at hl; omega
    have hadd : (⟨g, o, none⟩ : Addr).add i = ⟨g, o + i, none⟩ := add_off g o i
    have hcell : w.cell? ⟨g, o + i, none⟩ = some cur[o + i] := by simp [World.cell?, hg, hi]
    have hfro : w.frozen? ⟨g, o + i, none⟩ = false := by
      have := hfz (o + i) hi
      obtain ⟨lo, hi'⟩ := fz
      simp only [World.frozen?, hg, Bool.and_eq_false_iff, decide_eq_false_iff_not]
      simp only at this
      omega
    have hst : (store ((⟨g, o, none⟩ : Addr).add i) v).run P w = .ok () (w.setRow g (cur.setIfInBounds (o + i) v)) := by
      rw [hadd, run_store P w _ v _ (h1 v (by simp)), hcell]
      simp [hfro, setCell_eq_setRow w g (o + i) cur t fz v hg]
    have ih := run_storeCells_gen P g o t fz rest (i + 1) (cur.setIfInBounds (o + i) v) (w.setRow g (cur.setIfInBounds (o + i) v)) (setRow_heap w g cur _ t _ hg) (fun j hj => hfz j (by simpa using hj)) (by simp at hl ⊢; omega) (fun x hx => h1 x (by simp [hx]))
    simp only [storeCells, Sem.run_bind, hst, Result.andThen_ok, ih, setRow_setRow]
    congr 3
    have e := list_seg_step cur.toList (o + i) v rest (by simp at hl ⊢; omega)
    simpa [Array.toList_setIfInBounds, Nat.add_assoc] using e

/-- the row behind a store -/
def rowPut (cur : Array Value) (o : Nat) (vs : List Value) : Array Value := (cur.toList.take o ++ vs ++ cur.toList.drop (o + vs.length)).toArray
theorem rowPut_size (cur : Array Value) (o : Nat) (vs : List Value) (h : o + vs.length ≤ cur.size) : (rowPut cur o vs).size = cur.size := by simp [rowPut]; omega
theorem rowPut_get (cur : Array Value) (o : Nat) (vs : List Value) (h : o + vs.length ≤ cur.size) (j : Nat) : (rowPut cur o vs)[j]? = if o ≤ j ∧ j < o + vs.length then vs[j - o]? else cur[j]? := by
  have ho : (cur.toList.take o).length = o := by rw [List.length_take]; simp; omega
  simp only [rowPut, List.getElem?_toArray, List.append_assoc]
  by_cases h1 : j < o
  · rw [List.getElem?_append_left (by omega), List.getElem?_take, if_pos h1, if_neg (by omega)]; simp
  · rw [List.getElem?_append_right (by omega), ho]
    by_cases h2 : j < o + vs.length
    · rw [List.getElem?_append_left (by omega), if_pos ⟨by omega, h2⟩]
    · rw [List.getElem?_append_right (by omega), List.getElem?_drop, if_neg (by omega)]
      simp only [Array.getElem?_toList]
      congr 1; omega

section
variable {cx : Cx} {β : Nat → Nat × Nat} {σ : St} {a : Act} {w : World}

theorem Keep.same {d : Nat} {x : Blk} (hg : x.gen = (σ.B d).gen) (ha : ∀ g fz fx sz n f, x = .arr fz fx g sz n f → ∃ fz0 fx0 f0, σ.B d = .arr fz0 fx0 g sz n f0) (hb : ∀ g fz cs, x = .box fz g cs → ∃ fz0 cs0, σ.B d = .box fz0 g cs0) :
    Keep β σ.B β (fun e => getB e (setB d x σ.b)) := by
  have hB : ∀ e, e ≠ d → getB e (setB d x σ.b) = σ.B e := fun e he => by rw [getB_setB, if_neg he]; rfl
  have hBd : getB d (setB d x σ.b) = x := by rw [getB_setB, if_pos rfl]
  refine ⟨fun e => ?_, fun e g fz fx sz n f hbb _ => ?_, fun e g fz cs hbb _ => ?_⟩
  · by_cases he : e = d
    · subst he; simp only [hBd, hg]; exact Nat.le_refl _
    · simp only [hB e he]; exact Nat.le_refl _
  · by_cases he : e = d
    · subst he
      simp only [hBd] at hbb
      obtain ⟨fz0, fx0, f0, h0⟩ := ha _ _ _ _ _ _ hbb
      exact ⟨fz0, fx0, n, f0, h0, Int.le_refl _, fun _ => rfl⟩
    · simp only [hB e he] at hbb
      exact ⟨fz, fx, n, f, hbb, Int.le_refl _, fun _ => rfl⟩
  · by_cases he : e = d
    · subst he
      simp only [hBd] at hbb
      obtain ⟨fz0, cs0, h0⟩ := hb _ _ _ hbb
      exact ⟨fz0, cs0, h0, rfl⟩
    · simp only [hB e he] at hbb
      exact ⟨fz, cs, hbb, rfl⟩

theorem store_run {P : Program} {o : Oper} {t : Nat} {x y : Operand} (ho : o.op = .store t x y) {ad : Addr} (hx : a.eval x = .pointer (some ad)) {i : TypeInfo} (hi : P.info? t = some i) (hsz : (a.eval y).cells.size = i.size) {w' : World}
    (hst : (storeCells ad (a.eval y).cells.toList).run P w = .ok () w') : (execOp a.eval o).run P w = .ok .skip w' := by
  unfold execOp
  simp only [ho, hx, Instr.storeAt, Instr.sureAddr, storeVar, Sem.run_bind, Sem.run_pure, Result.andThen_ok, run_sizeOf hi, hsz]
  simp only [ne_eq, not_true_eq_false, if_false, hst, Result.andThen_ok]

theorem store_sound {T : Nat → Option TI} (hT : TOK cx.P T) (h : Rel cx β σ a w) {o : Oper} {t : Nat} {x y : Operand} (ho : o.op = .store t x y) {pre : Prop} {v : AV} {upd : List (Nat × Blk)} {rd : List Nat}
    (hs : storeF std T σ.B t (σ.ev x) (σ.ev y) = .ok pre v upd rd) (hp : pre) : Snd cx.P o cx σ a w v upd := by
  unfold storeF at hs
  split at hs
  · rename_i ti vs hti hvs
    obtain ⟨inf, z, hi, hz, hsz, hby, hzc, hd, ud, hu, hag⟩ := tok_info hT hti
    obtain ⟨hcs, hcell⟩ := cells_sound (h.ev y) hvs
    split at hs
    · cases hs
    · rename_i hlen
      have hlen := eqN_eq hlen
      rw [lenL_eq] at hlen
      have hvl : (a.eval y).cells.size = inf.size := by rw [hcs, hlen, hsz]
      split at hs
      · rename_i d g off hx
        split at hs
        · rename_i g' cs hB
          split at hs
          · rename_i hg hfit h1c
            obtain rfl := eqN_eq hg
            have hfit : off + vs.length ≤ cs.length := by rw [← lenL_eq, ← lenL_eq]; exact leN_le hfit
            rw [allB_eq, List.all_eq_true] at h1c
            simp only [SR.ok.injEq] at hs
            obtain ⟨rfl, rfl, rfl, -⟩ := hs
            have hev := h.ev x
            rw [hx] at hev
            have hptr := hev.pb_inv.2 _ _ hB
            have hbk := h.blk d
            unfold BlkOK at hbk
            rw [hB] at hbk
            obtain ⟨c, tt, fr, k1, k2, k3, k4⟩ := hbk
            have hlv : live σ.B d := by rw [live_iff, hB]; trivial
            have hone : ∀ v ∈ (a.eval y).cells.toList, v.oneCell' = true := by
              intro v hv
              obtain ⟨j, hj⟩ := List.mem_iff_getElem?.1 hv
              have hjl : j < vs.length := by
                have := (List.getElem?_eq_some_iff.1 hj).1
                simp at this; omega
              obtain ⟨u, hu, hr⟩ := hcell j _ (List.getElem?_eq_getElem hjl)
              have : u = v := by simp only [Array.getElem?_toList] at hj; rw [hj] at hu; exact (Option.some.inj hu).symm
              subst this
              exact hr.oneCell (h1c _ (List.getElem_mem _))
            have hvlen : (a.eval y).cells.toList.length = vs.length := by simpa using hcs
            have hfit' : off + (a.eval y).cells.toList.length ≤ c.size := by rw [hvlen, k2]; exact hfit
            have hst := run_storeCells_gen cx.P (β d).1 off tt fr (a.eval y).cells.toList 0 c w k1 k3 (by simpa using hfit') hone
            simp only [Nat.add_zero] at hst
            refine ⟨undef, w.setRow (β d).1 (rowPut c off (a.eval y).cells.toList), β, .inr ⟨store_run ho hptr hi hvl hst, rfl⟩, ?_⟩
            refine h.one (d := d) (x := .box false g (splice cs off vs)) (fun _ _ => rfl) trivial (fun k hk hne => setRow_other w _ k _ (hne hlv)) (.inr ⟨hlv, rfl⟩)
              (Keep.same (by rw [hB]; rfl) (fun _ _ _ _ _ _ hc => by cases hc) (fun _ _ _ hc => by simp only [Blk.box.injEq] at hc; obtain ⟨rfl, rfl, rfl⟩ := hc; exact ⟨_, _, hB⟩)) (fun hF hw => ?_) (fun _ _ => .cl (.any _)) rfl rfl rfl (by simp)
            refine box_ok (F := Fr cx w β σ.B) (β := β) (B := σ.B) (w := w) (fun hr => hr.mono hF hw ?_) (setRow_heap w _ c _ tt fr k1) rfl (by rw [getB_setB, if_pos rfl]) (by rw [rowPut_size _ _ _ hfit', k2, splice_len _ _ _ hfit]) (fun j hj => k3 j (by rw [rowPut_size _ _ _ hfit'] at hj; exact hj)) (fun j x hx => ?_)
            · exact Keep.same (by rw [hB]; rfl) (fun _ _ _ _ _ _ hc => by cases hc) (fun _ _ _ hc => by simp only [Blk.box.injEq] at hc; obtain ⟨rfl, rfl, rfl⟩ := hc; exact ⟨_, _, hB⟩)
            · rw [splice_get _ _ _ hfit] at hx
              rw [rowPut_get _ _ _ hfit', hvlen]
              split at hx
              · rename_i hin
                rw [if_pos hin]
                obtain ⟨u, hu, hr⟩ := hcell _ x hx
                exact ⟨u, by simpa using hu, hr⟩
              · rename_i hin
                rw [if_neg hin]
                exact k4 j x hx
          · cases hs
        · cases hs
      · rename_i d g n i off hx
        split at hs
        · rename_i fx g' sz n' f hB
          split at hs
          · rename_i hg hfit h1c
            obtain rfl := eqN_eq hg
            have hfit : off + vs.length ≤ sz := by rw [← lenL_eq]; exact leN_le hfit
            rw [allB_eq, List.all_eq_true] at h1c
            simp only [SR.ok.injEq] at hs
            obtain ⟨rfl, rfl, rfl, -⟩ := hs
            obtain ⟨rfl, ⟨hi0, hin⟩, hfl⟩ := hp
            rw [lenL_eq] at hfl
            have hev := h.ev x
            rw [hx] at hev
            have hptr := hev.pe_inv.2.2 _ _ _ _ hB hi0 hin
            have hbk := h.blk d
            unfold BlkOK at hbk
            rw [hB] at hbk
            obtain ⟨c, tt, fr, len, rfl, k1, k2, k3, k4, k5, k6, k7⟩ := hbk
            have hlv : live σ.B d := by rw [live_iff, hB]; trivial
            have hone : ∀ v ∈ (a.eval y).cells.toList, v.oneCell' = true := by
              intro v hv
              obtain ⟨j, hj⟩ := List.mem_iff_getElem?.1 hv
              have hjl : j < vs.length := by
                have := (List.getElem?_eq_some_iff.1 hj).1
                simp at this; omega
              obtain ⟨u, hu, hr⟩ := hcell j _ (List.getElem?_eq_getElem hjl)
              have : u = v := by simp only [Array.getElem?_toList] at hj; rw [hj] at hu; exact (Option.some.inj hu).symm
              subst this
              exact hr.oneCell (clC_oneC (h1c _ (List.getElem_mem _)))
            have hvlen : (a.eval y).cells.toList.length = vs.length := by simpa using hcs
            have hilt : i.toNat < (β d).2 := by have : i < (len : Int) := hin; omega
            have hfit' : i.toNat * sz + off + (a.eval y).cells.toList.length ≤ c.size := by
              rw [hvlen, k2]
              have : (i.toNat + 1) * sz ≤ (β d).2 * sz := Nat.mul_le_mul_right _ hilt
              rw [Nat.succ_mul] at this; omega
            have hst := run_storeCells_gen cx.P (β d).1 (i.toNat * sz + off) tt fr (a.eval y).cells.toList 0 c w k1 k5 (by simpa using hfit') hone
            simp only [Nat.add_zero] at hst
            have hkeep : Keep β σ.B β (fun e => getB e (setB d (.arr false fx g sz len (updC std sz f i (splice (f i) off vs))) σ.b)) :=
              Keep.same (by rw [hB]; rfl) (fun _ _ _ _ _ _ hc => by simp only [Blk.arr.injEq] at hc; obtain ⟨rfl, rfl, rfl, rfl, rfl, rfl⟩ := hc; exact ⟨_, _, _, hB⟩) (fun _ _ _ hc => by cases hc)
            refine ⟨undef, w.setRow (β d).1 (rowPut c (i.toNat * sz + off) (a.eval y).cells.toList), β, .inr ⟨store_run ho hptr hi hvl hst, rfl⟩, ?_⟩
            refine h.one (d := d) (x := .arr false fx g sz len (updC std sz f i (splice (f i) off vs))) (fun _ _ => rfl) trivial (fun k hk hne => setRow_other w _ k _ (hne hlv)) (.inr ⟨hlv, rfl⟩)
              hkeep (fun hF hw => ?_) (fun _ _ => .cl (.any _)) rfl rfl rfl (by simp)
            refine arr_ok (F := Fr cx w β σ.B) (w := w) (len := len) (fun hr => hr.mono hF hw) (setRow_heap w _ c _ tt fr k1) rfl (by rw [getB_setB, if_pos rfl]) rfl (by rw [rowPut_size _ _ _ hfit', k2]) k3 k4 (fun j hj => k5 j (by rw [rowPut_size _ _ _ hfit'] at hj; exact hj)) k6 (fun m hm => ?_)
            have hsp : off + vs.length ≤ (f i).length := by rw [hfl]; exact hfit
            by_cases hmi : (m : Int) = i
            · have hmn : i.toNat = m := by omega
              have he1 : std.eq (m : Int) i = true := by show ((m : Int) == i) = true; rw [beq_iff_eq]; exact hmi
              have hupd : updC std sz f i (splice (f i) off vs) (m : Int) = selL std sz true (splice (f i) off vs) (f m) := by unfold updC; rw [he1]
              rw [hupd]
              obtain ⟨s1, s2⟩ := selL_t sz (splice (f i) off vs) (f m) (by rw [splice_len _ _ _ hsp, hfl])
              refine ⟨s1, fun j z hz => ?_⟩
              obtain ⟨x, hx, hwk⟩ := s2 j z hz
              suffices ∃ u : Value, (rowPut c (i.toNat * sz + off) (a.eval y).cells.toList)[m * sz + j]? = some u ∧ u.oneCell' = true ∧ RepC w (Fr cx w β σ.B) x u from
                let ⟨u, u1, u2, u3⟩ := this; ⟨u, u1, u2, hwk.rep u3⟩
              have hj : j < sz := by
                have := (List.getElem?_eq_some_iff.1 hx).1
                rw [splice_len _ _ _ hsp, hfl] at this; exact this
              rw [splice_get _ _ _ hsp] at hx
              rw [rowPut_get _ _ _ hfit', hvlen, hmn]
              split at hx
              · rename_i hin2
                rw [if_pos ⟨by omega, by omega⟩]
                obtain ⟨u, hu, hr⟩ := hcell _ x hx
                have hcx := h1c x (List.mem_of_getElem? hx)
                refine ⟨u, ?_, hr.oneCell (clC_oneC hcx), hr.closed hcx⟩
                rw [Array.getElem?_toList, ← hu]; congr 1; omega
              · rename_i hin2
                rw [if_neg (by omega)]
                rw [← hmi] at hx
                exact (k7 m hm).2 j x hx
            · have he1 : std.eq (m : Int) i = false := by show ((m : Int) == i) = false; rw [beq_eq_false_iff_ne]; exact hmi
              have hupd : updC std sz f i (splice (f i) off vs) (m : Int) = selL std sz false (splice (f i) off vs) (f m) := by unfold updC; rw [he1]
              rw [hupd]
              obtain ⟨s1, s2⟩ := selL_f sz (splice (f i) off vs) (f m) (k7 m hm).1
              refine ⟨s1, fun j z hz => ?_⟩
              obtain ⟨x, hx, hwk⟩ := s2 j z hz
              suffices ∃ u : Value, (rowPut c (i.toNat * sz + off) (a.eval y).cells.toList)[m * sz + j]? = some u ∧ u.oneCell' = true ∧ RepC w (Fr cx w β σ.B) x u from
                let ⟨u, u1, u2, u3⟩ := this; ⟨u, u1, u2, hwk.rep u3⟩
              have hj : j < sz := by
                have := (List.getElem?_eq_some_iff.1 hx).1
                rw [(k7 m hm).1] at this; exact this
              rw [rowPut_get _ _ _ hfit', hvlen, if_neg ?_]
              · exact (k7 m hm).2 j x hx
              · rintro ⟨g1, g2⟩
                rcases Nat.lt_or_ge m i.toNat with hlt | hge
                · have : (m + 1) * sz ≤ i.toNat * sz := Nat.mul_le_mul_right _ hlt
                  rw [Nat.succ_mul] at this; omega
                · have hgt : i.toNat < m := by omega
                  have : (i.toNat + 1) * sz ≤ m * sz := Nat.mul_le_mul_right _ hgt
                  rw [Nat.succ_mul] at this; omega
          · cases hs
        · cases hs
      · cases hs
  · cases hs

end
end AB
end
section
namespace AB
open Go

theorem list_of {α : Type} [Inhabited α] {N : Nat} {R : Nat → α → Prop} (h : ∀ k, k < N → ∃ u, R k u) : ∃ l : List α, l.length = N ∧ ∀ k, k < N → ∃ u, l[k]? = some u ∧ R k u := by
  have h' : ∀ k, ∃ u, k < N → R k u := fun k => by
    by_cases hk : k < N
    · obtain ⟨u, hu⟩ := h k hk; exact ⟨u, fun _ => hu⟩
    · exact ⟨default, fun hc => absurd hc hk⟩
  refine ⟨(List.range N).map (fun k => (h' k).choose), by simp, fun k hk => ⟨(h' k).choose, by simp [hk], (h' k).choose_spec hk⟩⟩

section
variable {cx : Cx} {β : Nat → Nat × Nat} {σ : St} {a : Act} {w : World}

/-- what is appended, as it lies in memory -/
structure Src (w : World) (F : Nat → Prop) (yv : Value) (sz : Nat) (m : Int) (h : Int → List AV) (mm : Nat) (A : Option Addr) (c : Nat) (news : List Value) : Prop where
  hv : yv = .slice A mm c
  hm : m = (mm : Int)
  hl : news.length = mm * sz
  hmem : (mm = 0) ∨ ∃ ad, A = some ad ∧ ∀ (j : Nat) (v : Value), news[j]? = some v → w.cell? (ad.add j) = some v
  h1 : ∀ v ∈ news, v.oneCell' = true
  hel : ∀ i : Nat, i < mm → (h i).length = sz ∧ ∀ (j : Nat) (x : AV), (h i)[j]? = some x → ∃ u : Value, news[i * sz + j]? = some u ∧ u.oneCell' = true ∧ RepC w F x u

theorem mem_of_all {l : List Value} (h : ∀ k, k < l.length → ∃ u : Value, l[k]? = some u ∧ u.oneCell' = true) : ∀ v ∈ l, v.oneCell' = true := by
  intro v hv
  obtain ⟨k, hk⟩ := List.mem_iff_getElem?.1 hv
  obtain ⟨u, hu, h1⟩ := h k (List.getElem?_eq_some_iff.1 hk).1
  rw [hk] at hu
  exact (Option.some.inj hu) ▸ h1

theorem src_lst {F : Nat → Prop} {m : Int} {h : Int → List AV} {yv : Value} {sz : Nat} (hr : RepC w F (.lst m h) yv) (hsz : ∀ i : Int, 0 ≤ i → i < m → (h i).length = sz) : ∃ mm A c news, Src w F yv sz m h mm A c news := by
  cases hr with
  | lstE f A c => exact ⟨0, A, c, [], rfl, rfl, by simp, .inl rfl, by simp, fun i hi => absurd hi (Nat.not_lt_zero _)⟩
  | lst len n f blk off c sz' us hn hF hlc hl hc h1 hr =>
    by_cases h0 : len = 0
    · subst h0
      exact ⟨0, _, c, [], rfl, hn, by simp, .inl rfl, by simp, fun i hi => absurd hi (Nat.not_lt_zero _)⟩
    · have hs : sz' = sz := by
        have e1 := hl 0 (by omega)
        have e2 := hsz 0 (Int.le_refl _) (by omega)
        have : ((0 : Nat) : Int) = 0 := rfl
        rw [this] at e1; omega
      subst hs
      have hdiv : ∀ k, k < len * sz' → 0 < sz' ∧ k / sz' < len ∧ k % sz' < sz' ∧ k / sz' * sz' + k % sz' = k := by
        intro k hk
        have hp : 0 < sz' := by
          rcases Nat.eq_zero_or_pos sz' with hz | hz
          · rw [hz] at hk; simp at hk
          · exact hz
        exact ⟨hp, (Nat.div_lt_iff_lt_mul hp).2 hk, Nat.mod_lt _ hp, Nat.div_add_mod' k sz'⟩
      obtain ⟨news, n1, n2⟩ := list_of (N := len * sz') (R := fun k (u : Value) => w.cell? ⟨blk, off + k, none⟩ = some u ∧ u.oneCell' = true ∧ ∀ x, (h ((k / sz' : Nat) : Int))[k % sz']? = some x → RepC w F x u) (fun k hk => by
        obtain ⟨hp, hd, hmd, he⟩ := hdiv k hk
        have hlen := hl _ hd
        have hx := List.getElem?_eq_getElem (l := h ((k / sz' : Nat) : Int)) (i := k % sz') (by rw [hlen]; exact hmd)
        refine ⟨us (k / sz') (k % sz'), ?_, h1 _ hd _ _ hx, fun x hx' => hr _ hd _ _ hx'⟩
        have := hc _ hd _ _ hx
        rw [← this]; congr 2; omega)
      refine ⟨len, _, c, news, rfl, hn, n1, .inr ⟨_, rfl, fun j v hj => ?_⟩, mem_of_all (fun k hk => by obtain ⟨u, hu, _, h1, _⟩ := n2 k (by rw [← n1]; exact hk); exact ⟨u, hu, h1⟩), fun i hi => ⟨hl i hi, fun j x hx => ?_⟩⟩
      · obtain ⟨u, hu, hcell, _⟩ := n2 j (by rw [← n1]; exact (List.getElem?_eq_some_iff.1 hj).1)
        rw [hj] at hu
        rw [add_off, hcell, Option.some.inj hu]
      · have hj : j < sz' := by rw [← hl i hi]; exact (List.getElem?_eq_some_iff.1 hx).1
        have hlt : i * sz' + j < len * sz' := by
          have : (i + 1) * sz' ≤ len * sz' := Nat.mul_le_mul_right _ hi
          rw [Nat.succ_mul] at this; omega
        obtain ⟨u, hu, _, h1u, hrep⟩ := n2 _ hlt
        have e1 : (i * sz' + j) / sz' = i := by rw [Nat.mul_comm, Nat.mul_add_div (by omega), Nat.div_eq_of_lt hj, Nat.add_zero]
        have e2 : (i * sz' + j) % sz' = j := by rw [Nat.mul_comm, Nat.mul_add_mod, Nat.mod_eq_of_lt hj]
        exact ⟨u, hu, h1u, hrep x (by rw [e1, e2]; exact hx)⟩

/-- a row of the call's own, as what is appended -/
theorem src_row {F : Nat → Prop} {len cap sz blk : Nat} {h : Int → List AV} {c : Array Value} {tt : TypeId} {fr : Nat × Nat} (k1 : w.heap[blk]? = some (.cells c tt fr)) (k2 : c.size = cap * sz) (k3 : len ≤ cap)
    (k7 : ∀ i : Nat, i < len → (h i).length = sz ∧ ∀ (j : Nat) (x : AV), (h i)[j]? = some x → ∃ u : Value, c[i * sz + j]? = some u ∧ u.oneCell' = true ∧ RepC w F x u) :
    ∃ news, Src w F (.slice (some ⟨blk, 0, none⟩) len cap) sz len h len (some ⟨blk, 0, none⟩) cap news := by
  have hle : len * sz ≤ c.size := by rw [k2]; exact Nat.mul_le_mul_right _ k3
  have hg : ∀ k, k < len * sz → (c.toList.take (len * sz))[k]? = c[k]? := fun k hk => by rw [List.getElem?_take, if_pos hk]; simp
  refine ⟨c.toList.take (len * sz), rfl, rfl, by rw [List.length_take]; simp; omega, .inr ⟨_, rfl, fun j v hj => ?_⟩, mem_of_all (fun k hk => ?_), fun i hi => ⟨(k7 i hi).1, fun j x hx => ?_⟩⟩
  · have hjl : j < len * sz := by have := (List.getElem?_eq_some_iff.1 hj).1; rw [List.length_take] at this; omega
    rw [add_off, Nat.zero_add, cell_of_row w _ _ c tt fr k1, ← hg j hjl]; exact hj
  · have hkl : k < len * sz := by rw [List.length_take] at hk; omega
    have hp : 0 < sz := by
      rcases Nat.eq_zero_or_pos sz with hz | hz
      · rw [hz] at hkl; simp at hkl
      · exact hz
    have hd : k / sz < len := (Nat.div_lt_iff_lt_mul hp).2 hkl
    have hmd := Nat.mod_lt k hp
    have he := Nat.div_add_mod' k sz
    obtain ⟨q1, q2⟩ := k7 _ hd
    obtain ⟨u, hu, h1, _⟩ := q2 (k % sz) _ (List.getElem?_eq_getElem (by rw [q1]; exact hmd))
    rw [he] at hu
    exact ⟨u, by rw [hg k hkl]; exact hu, h1⟩
  · obtain ⟨u, hu, h1, hr⟩ := (k7 i hi).2 j x hx
    have hj : j < sz := by rw [← (k7 i hi).1]; exact (List.getElem?_eq_some_iff.1 hx).1
    have hlt : i * sz + j < len * sz := by
      have : (i + 1) * sz ≤ len * sz := Nat.mul_le_mul_right _ hi
      rw [Nat.succ_mul] at this; omega
    exact ⟨u, by rw [hg _ hlt]; exact hu, h1, hr⟩

theorem Src.mono {F F' : Nat → Prop} {w' : World} {yv : Value} {sz : Nat} {m : Int} {h : Int → List AV} {mm : Nat} {A : Option Addr} {c : Nat} {news : List Value} (s : Src w F yv sz m h mm A c news)
    (hF : ∀ b, F b → F' b) (hw : ∀ b, F b → ∀ o, w'.cell? ⟨b, o, none⟩ = w.cell? ⟨b, o, none⟩) : ∀ i : Nat, i < mm → (h i).length = sz ∧ ∀ (j : Nat) (x : AV), (h i)[j]? = some x → ∃ u : Value, news[i * sz + j]? = some u ∧ u.oneCell' = true ∧ RepC w' F' x u :=
  fun i hi => ⟨(s.hel i hi).1, fun j x hx => let ⟨u, h1, h2, h3⟩ := (s.hel i hi).2 j x hx; ⟨u, h1, h2, h3.mono hF hw⟩⟩

theorem run_append_in {P : Program} (w : World) (t ty e : TypeId) (i : TypeInfo) (ht : P.underlying t = some (.slice e)) (hi : P.info? e = some i)
    (g sLen sCap : Nat) (cur : Array Value) (tt : TypeId) (hg : w.heap[g]? = some (.cells cur tt (0, 0)))
    (a : Addr) (m c : Nat) (news : List Value) (hl : news.length = m * i.size) (hnews : ∀ j u, news[j]? = some u → w.cell? (a.add j) = some u) (h1 : ∀ u ∈ news, u.oneCell' = true)
    (hroom : sLen + m ≤ sCap) (hfit : sLen * i.size + news.length ≤ cur.size) :
    (Builtin.append_ #[t, t] ty #[.slice (some ⟨g, 0, none⟩) sLen sCap, .slice (some a) m c]).run P w =
      .ok (.slice (some ⟨g, 0, none⟩) (sLen + m) sCap) (w.setRow g (rowPut cur (sLen * i.size) news)) := by
  have hf := run_firstCells_some (P := P) w i.size m a m c news hl hnews
  have hst := run_storeCells_gen P g (sLen * i.size) tt (0, 0) news 0 cur w hg (by simp) (by simpa using hfit) h1
  simp only [Nat.add_zero] at hst
  simp [Builtin.append_, run_underlying ht, Go.sizeOf, typeInfo, hi, Builtin.lenOf, hroom, hf, Addr.add_lit, hst, rowPut]

theorem run_append_zero {P : Program} (w : World) (t ty e : TypeId) (i : TypeInfo) (ht : P.underlying t = some (.slice e)) (hi : P.info? e = some i)
    (g sLen sCap : Nat) (A : Option Addr) (c : Nat) (hroom : sLen ≤ sCap) :
    (Builtin.append_ #[t, t] ty #[.slice (some ⟨g, 0, none⟩) sLen sCap, .slice A 0 c]).run P w = .ok (.slice (some ⟨g, 0, none⟩) sLen sCap) w := by
  have hf : (Builtin.firstCells i.size 0 (.slice A 0 c)).run P w = .ok #[] w := by
    cases A with
    | none => simp [Builtin.firstCells]
    | some a => simp [Builtin.firstCells, loadCells, loadCellsFrom]
  simp [Builtin.append_, run_underlying ht, Go.sizeOf, typeInfo, hi, Builtin.lenOf, hroom, hf, storeCells]

/-- the elements behind an append -/
theorem app_cells {F : Nat → Prop} {f h : Int → List AV} {len mm sz : Nat} {c c' : Array Value} {news : List Value}
    (hf : ∀ i : Nat, i < len → (f i).length = sz ∧ ∀ (j : Nat) (x : AV), (f i)[j]? = some x → ∃ u : Value, c[i * sz + j]? = some u ∧ u.oneCell' = true ∧ RepC w F x u)
    (hh : ∀ i : Nat, i < mm → (h i).length = sz ∧ ∀ (j : Nat) (x : AV), (h i)[j]? = some x → ∃ u : Value, news[i * sz + j]? = some u ∧ u.oneCell' = true ∧ RepC w F x u)
    (hc1 : ∀ k, k < len * sz → c'[k]? = c[k]?) (hc2 : ∀ k, k < mm * sz → c'[len * sz + k]? = news[k]?) :
    ∀ i : Nat, i < len + mm → (appC std sz f len h i).length = sz ∧ ∀ (j : Nat) (x : AV), (appC std sz f len h i)[j]? = some x → ∃ u : Value, c'[i * sz + j]? = some u ∧ u.oneCell' = true ∧ RepC w F x u := by
  intro i hi
  by_cases hlt : i < len
  · have e1 : std.lt (i : Int) len = true := by show decide ((i : Int) < len) = true; rw [decide_eq_true_eq]; omega
    have he : appC std sz f len h i = selL std sz true (f i) (h (std.nsub i len)) := by unfold appC; rw [e1]
    rw [he]
    obtain ⟨s1, s2⟩ := selL_t sz (f i) (h (std.nsub i len)) (hf i hlt).1
    refine ⟨s1, fun j z hz => ?_⟩
    obtain ⟨x, hx, hwk⟩ := s2 j z hz
    have hj : j < sz := by rw [← (hf i hlt).1]; exact (List.getElem?_eq_some_iff.1 hx).1
    have : (i + 1) * sz ≤ len * sz := Nat.mul_le_mul_right _ hlt
    rw [Nat.succ_mul] at this
    rw [hc1 _ (by omega)]
    obtain ⟨u, u1, u2, u3⟩ := (hf i hlt).2 j x hx
    exact ⟨u, u1, u2, hwk.rep u3⟩
  · have e1 : std.lt (i : Int) len = false := by show decide ((i : Int) < len) = false; rw [decide_eq_false_iff_not]; omega
    have e2 : std.nsub (i : Int) len = ((i - len : Nat) : Int) := by show (i : Int) - len = _; omega
    have he : appC std sz f len h i = selL std sz false (f i) (h ((i - len : Nat) : Int)) := by unfold appC; rw [e1, e2]
    rw [he]
    have him : i - len < mm := by omega
    obtain ⟨s1, s2⟩ := selL_f sz (f i) (h ((i - len : Nat) : Int)) (hh _ him).1
    refine ⟨s1, fun j z hz => ?_⟩
    obtain ⟨x, hx, hwk⟩ := s2 j z hz
    have hj : j < sz := by rw [← (hh _ him).1]; exact (List.getElem?_eq_some_iff.1 hx).1
    have h2 : (i - len + 1) * sz ≤ mm * sz := Nat.mul_le_mul_right _ him
    rw [Nat.succ_mul] at h2
    have h3 : i * sz + j = len * sz + ((i - len) * sz + j) := by
      have : i = len + (i - len) := by omega
      conv => lhs; rw [this, Nat.add_mul]
      omega
    rw [h3, hc2 _ (by omega)]
    obtain ⟨u, u1, u2, u3⟩ := (hh _ him).2 j x hx
    exact ⟨u, u1, u2, hwk.rep u3⟩

theorem append_run {P : Program} {o : Oper} {c : Call} {x y : Operand} {t : Nat} (ho : o.op = .call c) (hcal : c.callee = .builtin .append) (hargs : c.args.toList = [x, y]) (hty : c.argTypes.toList = [t, t]) {u : Value} {w' : World}
    (hr : (Builtin.append_ #[t, t] o.type #[a.eval x, a.eval y]).run P w = .ok u w') : (execOp a.eval o).run P w = .ok (.value u) w' := by
  have ha : c.args = #[x, y] := by rw [← hargs]
  have ht : c.argTypes = #[t, t] := by rw [← hty]
  unfold execOp
  simp [ho, resolve, hcal, ha, ht, invoke, builtin, hr]

/-- append onto a nil slice -/
theorem append_nil_sound (h : Rel cx β σ a w) {o : Oper} {c : Call} {x y : Operand} {t e : Nat} (ho : o.op = .call c) (hcal : c.callee = .builtin .append) (hargs : c.args.toList = [x, y]) (hty : c.argTypes.toList = [t, t])
    (hue : cx.P.underlying t = some (.slice e)) {ie : TypeInfo} {z : Value} (hie : cx.P.info? e = some ie) (hze : ie.zero = some z) (hzs : z.cells.size = ie.size) (d : Nat) {m : Int} {hf : Int → List AV} {mm : Nat} {A : Option Addr} {cc : Nat} {news : List Value}
    (hx : a.eval x = .slice none 0 0) (hs : Src w (Fr cx w β σ.B) (a.eval y) ie.size m hf mm A cc news) (hp : 0 < mm) (hfit : std.fits 0 m ie.bytes) :
    Snd cx.P o cx σ a w (.sl d (Nat.succ (σ.B d).gen) m) [(d, .arr false false (Nat.succ (σ.B d).gen) ie.size m hf)] := by
  obtain ⟨hv, rfl, hl, hmem, h1, hel⟩ := hs
  obtain ⟨ad, rfl, hcell⟩ := hmem.resolve_left (by omega)
  obtain ⟨f1, f2⟩ := hfit
  have hb : mm * ie.bytes ≤ 140737488355328 := by have : ((mm * ie.bytes : Nat) : Int) ≤ 140737488355328 := by push_cast; simpa using f1; 
                                                  omega
  have hrun := run_append_nil (P := cx.P) w t o.type e ie z hue hie hze ad mm cc news hl hcell hp (by omega) (by omega)
  rw [← hx, ← hv] at hrun
  have hge := grownCap_ge w mm 0 e
  have hcm : grownCap w mm 0 e ≤ maxLen := grownCap_le_maxLen w mm 0 e (by simp only [maxLen]; omega)
  obtain ⟨β', hR⟩ := h.drew.alloc (d := d) (x := .arr false false (Nat.succ (σ.B d).gen) ie.size mm hf) (dst := o.dst) (v := .sl d (Nat.succ (σ.B d).gen) mm) (u := .slice (some ⟨w.heap.size, 0, none⟩) mm (grownCap w mm 0 e))
    (c := news.toArray ++ Builtin.zeroCells z.cells (grownCap w mm 0 e - mm)) (t := e) (fr := (0, 0)) (grownCap w mm 0 e) trivial rfl
    (fun w' F' β' B' _ h2 h3 h4 h5 => arr_ok (F := Fr cx w β σ.B) h2 h3 h4 h5 (len := mm) rfl (by
        simp only [Array.size_append, List.size_toArray, size_zeroCells, hzs, hl, ← Nat.add_mul]; congr 1; omega) hge hcm (by simp) (fun _ => rfl) (fun i hi => by
        refine ⟨(hel i hi).1, fun j x hx => ?_⟩
        obtain ⟨u, hu, g1, g2⟩ := (hel i hi).2 j x hx
        refine ⟨u, ?_, g1, g2.drew⟩
        rw [Array.getElem?_append_left (by have := (List.getElem?_eq_some_iff.1 hu).1; simpa using this)]
        simpa using hu))
    (fun w' F' β' B' h4 h5 => .sl d _ _ _ rfl (by rw [h5]; exact Nat.le_refl _) (fun fz fx sz n0 f hb => by rw [h5] at hb; simp only [Blk.arr.injEq] at hb; rw [hb.2.2.2.2.1]; exact Int.le_refl _)
      (fun fz fx sz f hb => by rw [h4]; rfl))
  exact ⟨_, _, β', .inl (append_run ho hcal hargs hty hrun), hR⟩

/-- append onto an own array -/
theorem append_own_sound (h : Rel cx β σ a w) {o : Oper} {c : Call} {x y : Operand} {t e : Nat} (ho : o.op = .call c) (hcal : c.callee = .builtin .append) (hargs : c.args.toList = [x, y]) (hty : c.argTypes.toList = [t, t])
    (hue : cx.P.underlying t = some (.slice e)) {ie : TypeInfo} {z : Value} (hie : cx.P.info? e = some ie) (hze : ie.zero = some z) (hzs : z.cells.size = ie.size) {d g : Nat} {n m : Int} {f hf : Int → List AV} {mm : Nat} {A : Option Addr} {cc : Nat} {news : List Value}
    (hB : σ.B d = .arr false false g ie.size n f) (hx : a.eval x = .slice (some ⟨(β d).1, 0, none⟩) n.toNat (β d).2) (hs : Src w (Fr cx w β σ.B) (a.eval y) ie.size m hf mm A cc news) (hfit : std.fits n m ie.bytes) :
    Snd cx.P o cx σ a w (.sl d g (n + m)) [(d, .arr false false g ie.size (n + m) (appC std ie.size f n hf))] := by
  obtain ⟨hv, rfl, hl, hmem, h1, hel⟩ := hs
  obtain ⟨f1, f2⟩ := hfit
  have hbk := h.blk d
  unfold BlkOK at hbk
  rw [hB] at hbk
  obtain ⟨cur, tt, fr, len, rfl, k1, k2, k3, k4, k5, k6, k7⟩ := hbk
  rw [k6 rfl] at k1
  rw [Int.toNat_natCast] at hx
  have hlv : live σ.B d := by rw [live_iff, hB]; trivial
  have hb : (len + mm) * ie.bytes ≤ 140737488355328 := by
    have : (((len + mm) * ie.bytes : Nat) : Int) ≤ 140737488355328 := by push_cast; exact f1
    omega
  have hBd : ∀ X : Blk, getB d (setB d X σ.b) = X := fun X => by rw [getB_setB, if_pos rfl]
  have hnm : ((len : Int) + (mm : Int)) = ((len + mm : Nat) : Int) := by push_cast; rfl
  have hlen63 : len + mm ≤ 4611686018427387904 := by have : (len : Int) + mm ≤ 4611686018427387904 := f2; omega
  by_cases hroom : len + mm ≤ (β d).2
  · -- in place
    have hfitc : len * ie.size + news.length ≤ cur.size := by rw [hl, k2, ← Nat.add_mul]; exact Nat.mul_le_mul_right _ hroom
    have hrun : (Builtin.append_ #[t, t] o.type #[a.eval x, a.eval y]).run cx.P w = .ok (.slice (some ⟨(β d).1, 0, none⟩) (len + mm) (β d).2) (w.setRow (β d).1 (rowPut cur (len * ie.size) news)) := by
      rcases hmem with h0 | ⟨ad, rfl, hcell⟩
      · subst h0
        have hn : news = [] := List.eq_nil_of_length_eq_zero (by simpa using hl)
        have hself : rowPut cur (len * ie.size) news = cur := by rw [hn]; simp [rowPut]
        rw [hx, hv, run_append_zero w t o.type e ie hue hie _ _ _ _ _ k3, hself, setRow_self w _ cur tt _ k1]
        rfl
      · rw [hx, hv]
        exact run_append_in w t o.type e ie hue hie _ _ _ cur tt k1 ad mm cc news hl hcell h1 hroom hfitc
    refine ⟨_, _, β, .inl (append_run ho hcal hargs hty hrun), ?_⟩
    refine h.one (d := d) (fun _ _ => rfl) trivial (fun k hk hne => setRow_other w _ k _ (hne hlv)) (.inr ⟨hlv, rfl⟩) ?_ (fun hF hw => ?_) (fun hF hw => ?_) rfl rfl rfl (by simp)
    · have hBe : ∀ (X : Blk) (e : Nat), e ≠ d → getB e (setB d X σ.b) = σ.B e := fun X e he => by rw [getB_setB, if_neg he]; rfl
      refine ⟨fun e => ?_, fun e g2 fz2 fx2 sz2 n2 f2 hb2 _ => ?_, fun e g2 fz2 cs2 hb2 _ => ?_⟩
      · by_cases hed : e = d
        · subst hed; simp only [hBd, hB]; exact Nat.le_refl _
        · simp only [hBe _ e hed]; exact Nat.le_refl _
      · by_cases hed : e = d
        · subst hed
          simp only [hBd, Blk.arr.injEq] at hb2
          obtain ⟨-, -, rfl, rfl, rfl, -⟩ := hb2
          exact ⟨_, _, _, f, hB, by omega, fun _ => rfl⟩
        · simp only [hBe _ e hed] at hb2
          exact ⟨fz2, fx2, n2, f2, hb2, Int.le_refl _, fun _ => rfl⟩
      · by_cases hed : e = d
        · subst hed; simp only [hBd] at hb2; cases hb2
        · simp only [hBe _ e hed] at hb2
          exact ⟨fz2, cs2, hb2, rfl⟩
    · refine arr_ok (F := Fr cx w β σ.B) (w := w) (len := len + mm) (fun hr => hr.mono hF hw) (setRow_heap w _ cur _ tt (0, 0) k1) rfl (hBd _) hnm (by rw [rowPut_size _ _ _ hfitc, k2]) hroom k4 (by simp) (fun _ => rfl) ?_
      exact app_cells k7 hel (fun k hk => by rw [rowPut_get _ _ _ hfitc, if_neg (by omega)]) (fun k hk => by rw [rowPut_get _ _ _ hfitc, if_pos ⟨by omega, by omega⟩]; congr 1; omega)
    · refine .sl d g _ _ rfl (by simp only [hBd]; exact Nat.le_refl _) (fun fz fx sz n0 f hb => ?_) (fun fz fx sz f hb => ?_)
      · simp only [hBd, Blk.arr.injEq] at hb; rw [hb.2.2.2.2.1]; exact Int.le_refl _
      · rw [hnm, Int.toNat_natCast]
  · -- a new array
    have hpos : 0 < mm := by omega
    obtain ⟨ad, rfl, hcell⟩ := hmem.resolve_left (by omega)
    have hle : len * ie.size ≤ cur.size := by rw [k2]; exact Nat.mul_le_mul_right _ k3
    let olds := cur.toList.take (len * ie.size)
    have hol : olds.length = len * ie.size := by simp only [olds, List.length_take, Array.length_toList]; omega
    have hog : ∀ k, k < len * ie.size → olds[k]? = cur[k]? := fun k hk => by simp only [olds, List.getElem?_take, if_pos hk]; simp
    have holds : ∀ j v, olds[j]? = some v → w.cell? ((⟨(β d).1, 0, none⟩ : Addr).add j) = some v := fun j v hj => by
      have hjl : j < len * ie.size := by rw [← hol]; exact (List.getElem?_eq_some_iff.1 hj).1
      rw [add_off, Nat.zero_add, cell_of_row w _ _ cur tt _ k1, ← hog j hjl]; exact hj
    have hrun := run_append_grow (P := cx.P) w t o.type e ie z hue hie hze ⟨(β d).1, 0, none⟩ len (β d).2 olds hol holds ad mm cc news hl hcell (by omega) (by omega) (growslice_fits (by omega) hb)
    rw [← hx, ← hv] at hrun
    have hge := grownCap_ge w (len + mm) (β d).2 e
    have hcm : grownCap w (len + mm) (β d).2 e ≤ maxLen := grownCap_le_maxLen w (len + mm) (β d).2 e (by simp only [maxLen]; omega)
    let β' : Nat → Nat × Nat := fun e' => if e' = d then (w.heap.size, grownCap w (len + mm) (β d).2 e) else β e'
    have hβd : β' d = (w.heap.size, grownCap w (len + mm) (β d).2 e) := if_pos rfl
    have hβ : ∀ e', e' ≠ d → β' e' = β e' := fun e' he => if_neg he
    have hBe : ∀ (X : Blk) (e : Nat), e ≠ d → getB e (setB d X σ.b) = σ.B e := fun X e he => by rw [getB_setB, if_neg he]; rfl
    refine ⟨_, _, β', .inl (append_run ho hcal hargs hty hrun), ?_⟩
    refine h.drew.one (d := d) hβ trivial (fun k hk _ => heap_alloc_old w.drew _ k hk) (.inl (by rw [hβd]; exact Nat.le_refl _)) ?_ (fun hF hw => ?_) (fun hF hw => ?_) rfl rfl rfl (by simp)
    · refine ⟨fun e => ?_, fun e g2 fz2 fx2 sz2 n2 f2 hb2 _ => ?_, fun e g2 fz2 cs2 hb2 _ => ?_⟩
      · by_cases hed : e = d
        · subst hed; simp only [hBd, hB]; exact Nat.le_refl _
        · simp only [hBe _ e hed]; exact Nat.le_refl _
      · by_cases hed : e = d
        · subst hed
          simp only [hBd, Blk.arr.injEq] at hb2
          obtain ⟨-, -, rfl, rfl, rfl, -⟩ := hb2
          exact ⟨_, _, _, f, hB, by omega, fun hc => by omega⟩
        · simp only [hBe _ e hed] at hb2
          exact ⟨fz2, fx2, n2, f2, hb2, Int.le_refl _, fun _ => hβ e hed⟩
      · by_cases hed : e = d
        · subst hed; simp only [hBd] at hb2; cases hb2
        · simp only [hBe _ e hed] at hb2
          exact ⟨fz2, cs2, hb2, by rw [hβ e hed]⟩
    · refine arr_ok (F := Fr cx w β σ.B) (w := w.drew) (len := len + mm) (fun hr => hr.mono hF hw) (heap_alloc_new w.drew _) hβd (hBd _) hnm ?_ hge hcm (by simp) (fun _ => rfl) ?_
      · simp only [Array.size_append, List.size_toArray, size_zeroCells, hzs, hol, hl, ← Nat.add_mul]; congr 1; omega
      · refine app_cells (w := w.drew) (fun i hi => ⟨(k7 i hi).1, fun j x hx => let ⟨u, q1, q2, q3⟩ := (k7 i hi).2 j x hx; ⟨u, q1, q2, q3.drew⟩⟩) (fun i hi => ⟨(hel i hi).1, fun j x hx => let ⟨u, q1, q2, q3⟩ := (hel i hi).2 j x hx; ⟨u, q1, q2, q3.drew⟩⟩) (fun k hk => ?_) (fun k hk => ?_)
        · rw [Array.getElem?_append_left (by simp only [Array.size_append, List.size_toArray, hol]; omega), Array.getElem?_append_left (by simpa [hol] using hk)]
          rw [List.getElem?_toArray, hog k hk]
        · rw [Array.getElem?_append_left (by simp only [Array.size_append, List.size_toArray, hol, hl]; omega), Array.getElem?_append_right (by simp only [List.size_toArray, hol]; omega)]
          simp only [List.size_toArray, hol, List.getElem?_toArray]; congr 1 <;> omega
    · refine .sl d g _ _ rfl (by simp only [hBd]; exact Nat.le_refl _) (fun fz fx sz n0 f hb => ?_) (fun fz fx sz f hb => ?_)
      · simp only [hBd, Blk.arr.injEq] at hb; rw [hb.2.2.2.2.1]; exact Int.le_refl _
      · rw [hnm, Int.toNat_natCast, hβd]

end
end AB
end
section
namespace AB
open Go

section
variable {cx : Cx} {β : Nat → Nat × Nat} {σ : St} {a : Act} {w : World}

theorem append_sound {T : Nat → Option TI} (hT : TOK cx.P T) (h : Rel cx β σ a w) {o : Oper} {c : Call} {x y : Operand} {t : Nat} (ho : o.op = .call c) (hcal : c.callee = .builtin .append) (hargs : c.args.toList = [x, y]) (hty : c.argTypes.toList = [t, t])
    (d : Nat) {pre : Prop} {v : AV} {upd : List (Nat × Blk)} {rd : List Nat} (hs : appendF std T σ.B d t (σ.ev x) (σ.ev y) = .ok pre v upd rd) (hp : pre) : Snd cx.P o cx σ a w v upd := by
  unfold appendF at hs
  split at hs
  · cases hs
  · rename_i e ei hse
    obtain ⟨hue, hei⟩ := sliceElem_ok hT hse
    obtain ⟨ie, z, hie, hze, hsz, hby, hzc, hd, ud, hu, hag⟩ := tok_info hT hei
    have hzs : z.cells.size = ie.size := by rw [hsz, ← tok_zero hT hei, ← hzc]; simp
    -- what is appended
    have hy : ∀ m hf pre' rd', appSrc std σ.B ei (σ.ev y) = some (m, hf, pre', rd') → pre' → ∃ mm A cc news, Src w (Fr cx w β σ.B) (a.eval y) ie.size m hf mm A cc news := by
      intro m hf pre' rd' he hp'
      unfold appSrc at he
      split at he
      · rename_i m' h' hy
        simp only [Option.some.injEq, Prod.mk.injEq] at he
        obtain ⟨rfl, rfl, rfl, -⟩ := he
        have hev := h.ev y
        rw [hy] at hev
        exact src_lst hev.lst_inv (fun i h0 h1 => by rw [hsz, ← lenL_eq]; exact hp' i ⟨h0, h1⟩)
      · rename_i e' g m' hy
        split at he
        · rename_i fz fx g' sz m'' h' hB
          split at he
          · rename_i hg hsz'
            obtain rfl := eqN_eq hg
            have hsz' := eqN_eq hsz'
            simp only [Option.some.injEq, Prod.mk.injEq] at he
            obtain ⟨rfl, rfl, rfl, -⟩ := he
            obtain rfl := hp'
            have hev := h.ev y
            rw [hy] at hev
            have heq := hev.sl_inv.2.2 _ _ _ _ hB
            have hbk := h.blk e'
            unfold BlkOK at hbk
            rw [hB] at hbk
            obtain ⟨cc, tt, fr, len, rfl, k1, k2, k3, k4, k5, k6, k7⟩ := hbk
            rw [heq, Int.toNat_natCast, hsz, ← hsz']
            obtain ⟨news, hn⟩ := src_row k1 k2 k3 k7
            exact ⟨len, _, _, news, hn⟩
          · cases he
        · cases he
      · cases he
    split at hs
    · cases hs
    · rename_i m hf pre' rd' heq
      split at hs
      · rename_i hx
        simp only [SR.ok.injEq] at hs
        obtain ⟨rfl, rfl, rfl, -⟩ := hs
        obtain ⟨hp1, hp2, hp3⟩ := hp
        obtain ⟨mm, A, cc, news, hsrc⟩ := hy _ _ _ _ heq hp1
        have hxv := (hx ▸ h.ev x).val_inv
        rw [← hby] at hp3
        have := append_nil_sound h ho hcal hargs hty hue hie hze hzs d hxv hsrc (by have h1 := hp2.2; rw [hsrc.hm] at h1; omega) hp3
        rw [hsz] at this
        exact this
      · rename_i e' g n hx
        split at hs
        · rename_i g' sz n' f hB
          split at hs
          · rename_i hg hsz'
            obtain rfl := eqN_eq hg
            obtain rfl := eqN_eq hsz'
            simp only [SR.ok.injEq] at hs
            obtain ⟨rfl, rfl, rfl, -⟩ := hs
            obtain ⟨rfl, hp1, hp3⟩ := hp
            obtain ⟨mm, A, cc, news, hsrc⟩ := hy _ _ _ _ heq hp1
            have hev := h.ev x
            rw [hx] at hev
            have hxv := hev.sl_inv.2.2 _ _ _ _ hB
            rw [← hby] at hp3
            rw [← hsz] at hB ⊢
            exact append_own_sound h ho hcal hargs hty hue hie hze hzs hB hxv hsrc hp3
          · cases hs
        · cases hs
      · cases hs

theorem conv_run {P : Program} {o : Oper} {s t : Nat} {x : Operand} (ho : o.op = .convert s t x) {u : Value} {w' : World} (hr : (convert s t (a.eval x)).run P w = .ok u w') : (execOp a.eval o).run P w = .ok (.value u) w' := by
  unfold execOp
  simp only [ho, Sem.run_bind, hr, Result.andThen_ok, Sem.run_pure]

theorem foldl_push : ∀ (l : List UInt8) (r : ByteArray), (l.map fun c => (c.toNat : Int)).foldl (fun (r : ByteArray) (n : Int) => r.push (UInt8.ofNat n.toNat)) r = ⟨r.data ++ l.toArray⟩
  | [], r => by simp
  | c :: l, r => by
    simp only [List.map_cons, List.foldl_cons]
    rw [foldl_push l]
    simp [ByteArray.push]

/-- bytes that read as a list, as a string -/
theorem bytes_string {P : Program} {F : Nat → Prop} {n : Int} {f : Int → List AV} {s t e : Nat} (hs : P.underlying s = some (.slice e)) (he : P.underlying e = some (.int .u8)) (hd : P.underlying t = some .string)
    {A : Option Addr} {len c : Nat} (h : RepC w F (.lst n f) (.slice A len c)) (hp : ∀ i, std.isin i n → ∃ c : UInt8, f i = [.val (.int .u8 c.toNat)]) : (convert s t (.slice A len c)).run P w = .ok (.string (std.ofB n f)) w := by
  rw [run_convert_bytes_string w s t e A len c hs he hd]
  generalize hv : Value.slice A len c = v at h
  cases h with
  | lstE f A' c' =>
    simp only [Value.slice.injEq] at hv
    obtain ⟨rfl, rfl, rfl⟩ := hv
    cases A with
    | none => simp [Conv.bytesToString, std]; rfl
    | some ad => 
      rw [run_bytesToString w ad 0 c [] (by simp [loadCells, loadCellsFrom])]
      simp [std]; rfl
  | lst len' n f blk off c' sz us hn hF hlc hl hcc h1 hr =>
    simp only [Value.slice.injEq] at hv
    obtain ⟨rfl, rfl, rfl⟩ := hv
    have hex : ∀ i, ∃ b : UInt8, i < len → f (i : Int) = [.val (.int .u8 b.toNat)] := fun i => by
      by_cases hi : i < len
      · obtain ⟨b, hb⟩ := hp (i : Int) ⟨by omega, by omega⟩; exact ⟨b, fun _ => hb⟩
      · exact ⟨0, fun hc => absurd hc hi⟩
    let bs : List UInt8 := (List.range len).map fun i => (hex i).choose
    have hbs : ∀ i, i < len → f (i : Int) = [.val (.int .u8 ((hex i).choose).toNat)] := fun i hi => (hex i).choose_spec hi
    have hcell : ∀ j, j < len → w.cell? ⟨blk, off + j, none⟩ = some (.int .u8 ((hex j).choose).toNat) := fun j hj => by
      have h2 := hbs j hj
      have hsz : sz = 1 := by have := hl j hj; rw [h2] at this; simpa using this.symm
      have h3 := hcc j hj 0 _ (by rw [h2]; rfl)
      have h4 := hr j hj 0 _ (by rw [h2]; rfl)
      have h5 : us j 0 = .int .u8 ((hex j).choose).toNat := by
        generalize us j 0 = u at h4
        cases h4; rfl
      rw [h5, hsz, Nat.mul_one, Nat.add_zero] at h3
      exact h3
    have hload : (loadCells ⟨blk, off, none⟩ len).run P w = .ok (((bs.map fun c => (c.toNat : Int)).map (Value.int .u8))).toArray w := by
      have := run_loadCells (P := P) w ⟨blk, off, none⟩ len (fun j => .int .u8 ((hex j).choose).toNat) (fun j hj => by rw [add_off]; exact hcell j hj)
      rw [this]
      simp [bs, List.map_map, Function.comp_def]
    rw [run_bytesToString w _ len c _ hload, foldl_push]
    have : std.ofB n f = ⟨bs.toArray⟩ := by
      subst hn
      simp only [std, Int.toNat_natCast, bs]
      congr 2
      apply List.map_congr_left
      intro i hi
      have hi' := List.mem_range.1 hi
      have h2 := hbs i hi'
      show byteOf (f (Int.ofNat i)) = _
      have h3 : byteOf (f (i : Int)) = byteOf [.val (.int .u8 ((hex i).choose).toNat)] := congrArg byteOf h2
      rw [show (Int.ofNat i) = (i : Int) from rfl, h3]
      simp [byteOf]
    rw [this]
    simp

theorem conv_sound {T : Nat → Option TI} (hT : TOK cx.P T) (h : Rel cx β σ a w) {o : Oper} {s t : Nat} {x : Operand} (ho : o.op = .convert s t x) (d : Nat) {pre : Prop} {v : AV} {upd : List (Nat × Blk)} {rd : List Nat}
    (hs : convF std T σ.B d s t (σ.ev x) = .ok pre v upd rd) (hp : pre) : Snd cx.P o cx σ a w v upd := by
  unfold convF at hs
  split at hs
  · rename_i si di hsi hdi
    obtain ⟨_, _, _, _, _, _, _, hsd, _⟩ := tok_info hT hsi
    obtain ⟨_, _, _, _, _, _, _, hdd, _⟩ := tok_info hT hdi
    split at hs
    · rename_i k0 k k1 n h1 h2 hx
      simp only [SR.ok.injEq] at hs
      obtain ⟨rfl, rfl, rfl, -⟩ := hs
      have hxv := (hx ▸ h.ev x).val_inv
      refine Snd.pure h (u := .int k (k.wrap n)) (conv_run ho ?_) (.cl (.val _))
      rw [hxv]
      simp [convert, run_underlying (td_int (hsd.trans h1)), run_underlying (td_int (hdd.trans h2)), Conv.intToInt]
    · rename_i st h1 h2 hx
      simp only [SR.ok.injEq] at hs
      obtain ⟨rfl, rfl, rfl, -⟩ := hs
      have hxv := (hx ▸ h.ev x).val_inv
      refine Snd.pure h (u := .string st) (conv_run ho ?_) (.cl (.val _))
      rw [hxv]
      simp [convert, run_underlying (td_str (hsd.trans h1)), run_underlying (td_str (hdd.trans h2))]
    · rename_i e st h1 h2 hx
      split at hs
      · rename_i ei hei
        obtain ⟨_, _, _, _, _, _, _, hed, _⟩ := tok_info hT hei
        split at hs
        · rename_i h3
          simp only [SR.ok.injEq] at hs
          obtain ⟨rfl, rfl, rfl, -⟩ := hs
          have hxv := (hx ▸ h.ev x).val_inv
          obtain ⟨m1, m2, m3⟩ := hp
          have m3' : st.size ≤ 4611686018427387904 := by have : (st.size : Int) ≤ 4611686018427387904 := m3; omega
          have hrun := Lib.run_convert_string_bytes (P := cx.P) w s t e st (td_str (hsd.trans h1)) (td_sl (hdd.trans h2)) (td_int (hed.trans h3))
          have hge := grownCap_ge w st.size 0 e
          have hcm : grownCap w st.size 0 e ≤ maxLen := grownCap_le_maxLen w st.size 0 e (by simp only [maxLen]; omega)
          rw [← hxv] at hrun
          have hcs : (Lib.bytesCells w e st).size = grownCap w st.size 0 e := by
            have : st.data.size = st.size := rfl
            simp [Lib.bytesCells, this]; omega
          let β' : Nat → Nat × Nat := fun e' => if e' = d then (w.heap.size, grownCap w st.size 0 e) else β e'
          have hβd : β' d = (w.heap.size, grownCap w st.size 0 e) := if_pos rfl
          have hBd : ∀ X : Blk, getB d (setB d X σ.b) = X := fun X => by rw [getB_setB, if_pos rfl]
          refine ⟨_, _, β', .inl (conv_run ho hrun), ?_⟩
          refine h.one (d := d) (fun e' he => if_neg he) trivial (fun k hk _ => Lib.bytesWorld_at_old w e st k hk) (.inl (by rw [hβd]; exact Nat.le_refl _)) (Keep.fresh (fun e' he => if_neg he) rfl) (fun hF hw => ?_) (fun hF hw => ?_) rfl rfl rfl (by rw [Lib.bytesWorld_size]; omega)
          · refine arr_ok (F := Fr cx w β σ.B) (w := w) (len := st.size) (fun hr => hr.mono hF hw) (Lib.bytesWorld_at_new w e st) hβd (hBd _) rfl (by rw [hcs, Nat.mul_one]) hge hcm (fun j hj => by simp only; omega) (fun hc => by cases hc) (fun i hi => ?_)
            refine ⟨rfl, fun j x hx => ?_⟩
            cases j with
            | succ j => simp at hx
            | zero =>
              simp only [List.getElem?_cons_zero, Option.some.injEq] at hx
              subst hx
              have hi' : i < st.data.size := hi
              refine ⟨.int .u8 (std.sat st i), ?_, rfl, .val _⟩
              simp only [Nat.mul_one, Nat.add_zero, Lib.bytesCells]
              rw [Array.getElem?_append_left (by simpa using hi')]
              simp only [Array.getElem?_map, Array.getElem?_eq_getElem hi', Option.map_some, std, Int.toNat_natCast, Array.getD_eq_getD_getElem?, Option.getD_some]
          · refine .sl d _ _ _ rfl (by simp only [hBd]; exact Nat.le_refl _) (fun fz fx sz n0 f hb => ?_) (fun fz fx sz f hb => ?_)
            · simp only [hBd, Blk.arr.injEq] at hb; rw [hb.2.2.2.2.1]; exact Int.le_refl _
            · rw [hβd]; rfl
        · cases hs
      · cases hs
    · rename_i e y h1 h2
      split at hs
      · rename_i ei hei
        obtain ⟨_, _, _, _, _, _, _, hed, _⟩ := tok_info hT hei
        split at hs
        · rename_i h3
          split at hs
          · rename_i n f hx
            simp only [SR.ok.injEq] at hs
            obtain ⟨rfl, rfl, rfl, -⟩ := hs
            have hev := h.ev x
            rw [hx] at hev
            obtain ⟨A, len, c, he, hn, hlc⟩ := hev.lst_inv.lst_len
            rw [he] at hev
            refine Snd.pure h (u := .string (std.ofB n f)) (conv_run ho ?_) (.cl (.val _))
            rw [he]
            exact bytes_string (td_sl (hsd.trans h1)) (td_int (hed.trans h3)) (td_str (hdd.trans h2)) hev.lst_inv hp
          · rename_i d' g n hx
            split at hs
            · rename_i fz fx g' sz n' f hB
              split at hs
              · rename_i hg
                obtain rfl := eqN_eq hg
                simp only [SR.ok.injEq] at hs
                obtain ⟨rfl, rfl, rfl, -⟩ := hs
                obtain ⟨rfl, hp⟩ := hp
                have hev := h.ev x
                rw [hx] at hev
                have he := hev.sl_inv.2.2 _ _ _ _ hB
                have hbk := h.blk d'
                unfold BlkOK at hbk
                rw [hB] at hbk
                obtain ⟨cc, tt, fr, len, rfl, k1, k2, k3, k4, k5, k6, k7⟩ := hbk
                rw [Int.toNat_natCast] at he
                refine Snd.pure h (u := .string (std.ofB len f)) (conv_run ho ?_) (.cl (.val _))
                rw [he]
                refine bytes_string (F := fun _ => True) (td_sl (hsd.trans h1)) (td_int (hed.trans h3)) (td_str (hdd.trans h2)) ?_ hp
                refine .lst len _ f (β d').1 0 _ sz (fun i j => (cc[i * sz + j]?).getD undef) rfl trivial k3 (fun i hi => (k7 i hi).1) (fun i hi j x hx => ?_) (fun i hi j x hx => ?_) (fun i hi j x hx => ?_)
                · obtain ⟨y, hy, _⟩ := (k7 i hi).2 j x hx
                  rw [cell_of_row w _ _ cc tt fr k1, Nat.zero_add, hy]; rfl
                · obtain ⟨y, hy, h1, hr⟩ := (k7 i hi).2 j x hx
                  rw [hy]; exact h1
                · obtain ⟨y, hy, h1, hr⟩ := (k7 i hi).2 j x hx
                  rw [hy]; exact hr.mono (fun _ _ => trivial) (fun _ _ _ => rfl)
              · cases hs
            · cases hs
          · cases hs
        · cases hs
      · cases hs
    · cases hs
  · cases hs

theorem minmax_sound (h : Rel cx β σ a w) {o : Oper} {c : Call} (ho : o.op = .call c) {isMax : Bool} (hcal : c.callee = .builtin (if isMax then .max else .min)) {k : IntKind} {b : Int} {r : List AV} (hargs : mapL σ.ev c.args.toList = .val (.int k b) :: r)
    {pre : Prop} {v : AV} {upd : List (Nat × Blk)} {rd : List Nat} (hs : foldI (if isMax then std.imax else std.imin) k b r = .ok pre v upd rd) : Snd cx.P o cx σ a w v upd := by
  rw [mapL_eq] at hargs
  cases hl : c.args.toList with
  | nil => rw [hl] at hargs; cases hargs
  | cons x xs =>
    rw [hl, List.map_cons, List.cons.injEq] at hargs
    obtain ⟨hx, hr⟩ := hargs
    have hxv := (hx ▸ h.ev x).val_inv
    have hca : c.args.toList.map a.eval = .int k b :: xs.map a.eval := by rw [hl, List.map_cons, hxv]
    cases isMax
    · obtain ⟨rfl, u, rfl, hrun⟩ := foldI_ok std.imin k Builtin.min2 (fun j a b => by cases b <;> rfl) cx.P r (xs.map a.eval) b hs (by rw [← hr]; simp) (fun j c hj => by
        rw [← hr, List.getElem?_map, Option.map_eq_some_iff] at hj
        obtain ⟨y, hy, hyc⟩ := hj
        rw [List.getElem?_map, hy]
        simp [(hyc ▸ h.ev y).val_inv])
      refine Snd.pure h (u := u) ?_ (.cl (.val _))
      unfold execOp
      simp only [ho, resolve, hcal, Bool.false_eq_true, if_false, Sem.run_bind, Sem.run_pure, Result.andThen_ok, invoke, builtin, Builtin.min_, Array.toList_map, hca]
      rw [hrun]; rfl
    · obtain ⟨rfl, u, rfl, hrun⟩ := foldI_ok std.imax k Builtin.max2 (fun j a b => by cases b <;> rfl) cx.P r (xs.map a.eval) b hs (by rw [← hr]; simp) (fun j c hj => by
        rw [← hr, List.getElem?_map, Option.map_eq_some_iff] at hj
        obtain ⟨y, hy, hyc⟩ := hj
        rw [List.getElem?_map, hy]
        simp [(hyc ▸ h.ev y).val_inv])
      refine Snd.pure h (u := u) ?_ (.cl (.val _))
      unfold execOp
      simp only [ho, resolve, hcal, if_true, Sem.run_bind, Sem.run_pure, Result.andThen_ok, invoke, builtin, Builtin.max_, Array.toList_map, hca]
      rw [hrun]; rfl

end
end AB
end
