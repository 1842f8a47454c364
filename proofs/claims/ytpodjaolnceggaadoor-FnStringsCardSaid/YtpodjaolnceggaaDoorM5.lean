/- Part 5 of the proof: an abstract machine over the translated code, the functions' contracts, and the plain law. -/
import Derived.Laws.MakeOwn
import Derived.Laws.Slices
import Derived.Test.YtpodjaolnceggaaDoorM4
set_option linter.unusedSimpArgs false
set_option linter.unusedVariables false
set_option linter.unusedSectionVars false
section
namespace AB
open Go

theorem chunk_get (sz : Nat) : ∀ (n : Nat) (l : List AV), l.length = n * sz → (chunk sz n l).length = n ∧ ∀ i, i < n → ∃ c, (chunk sz n l)[i]? = some c ∧ c.length = sz ∧ ∀ j, j < sz → c[j]? = l[i * sz + j]?
  | 0, l, h => by simp [chunk]
  | n + 1, l, h => by
    obtain ⟨h1, h2⟩ := chunk_get sz n (l.drop sz) (by rw [List.length_drop, h, Nat.succ_mul]; omega)
    rw [Nat.succ_mul] at h
    simp only [chunk, takeL_eq, dropL_eq]
    refine ⟨by simp [h1], fun i hi => ?_⟩
    cases i with
    | zero => exact ⟨_, rfl, by rw [List.length_take]; omega, fun j hj => by rw [List.getElem?_take, if_pos hj]; simp⟩
    | succ i =>
      obtain ⟨c, g1, g2, g3⟩ := h2 i (by omega)
      refine ⟨c, by simpa using g1, g2, fun j hj => ?_⟩
      rw [g3 j hj, List.getElem?_drop]
      congr 1
      rw [Nat.succ_mul]; omega
theorem intN_eq : ∀ n : Nat, intN n = (n : Int)
  | 0 | 1 | 2 | 3 | 4 | 5 | 6 | 7 | 8 | 9 | 10 | 11 | 12 | 13 | 14 | 15 => rfl
  | _ + 16 => rfl
theorem elemF_get (sz : Nat) : ∀ (l : List (List AV)) (k i : Nat) (c : List AV), l[i]? = some c → (∀ x, x ∈ l → x.length = sz) →
    (elemF std sz l k ((k + i : Nat) : Int)).length = sz ∧ ∀ (j : Nat) (z : AV), (elemF std sz l k ((k + i : Nat) : Int))[j]? = some z → ∃ x, c[j]? = some x ∧ Wkr x z
  | [], k, i, c, h, _ => by simp at h
  | [d], k, i, c, h, hs => by
    cases i with
    | zero =>
      simp only [List.getElem?_cons_zero, Option.some.injEq] at h
      subst h
      have e0 : ∀ i, elemF std sz [d] k i = d := fun i => by unfold elemF; rfl
      rw [e0]
      exact ⟨hs _ (by simp), fun j z hz => ⟨z, hz, .refl z⟩⟩
    | succ i => simp at h
  | d :: e :: r, k, i, c, h, hs => by
    unfold elemF
    simp only
    cases i with
    | zero =>
      simp only [List.getElem?_cons_zero, Option.some.injEq] at h
      subst h
      have e1 : std.eq ((k + 0 : Nat) : Int) (intN k) = true := by rw [intN_eq]; show (((k + 0 : Nat) : Int) == (k : Int)) = true; simp
      rw [e1]
      exact selL_t sz _ _ (hs _ (by simp))
    | succ i =>
      have e1 : std.eq ((k + (i + 1) : Nat) : Int) (intN k) = false := by
        rw [intN_eq]
        show (((k + (i + 1) : Nat) : Int) == (k : Int)) = false
        rw [beq_eq_false_iff_ne]; omega
      rw [e1]
      have e2 : k + (i + 1) = Nat.succ k + i := by omega
      rw [e2]
      obtain ⟨h1, h2⟩ := elemF_get sz (e :: r) (Nat.succ k) i c (by simpa using h) (fun x hx => hs x (by simp [hx]))
      obtain ⟨h3, h4⟩ := selL_f sz d _ h1
      refine ⟨h3, fun j z hz => ?_⟩
      obtain ⟨y, hy, hw⟩ := h4 j z hz
      obtain ⟨x, hx, hw'⟩ := h2 j y hy
      exact ⟨x, hx, hw'.trans hw⟩

theorem replL_len (z : List AV) : ∀ n, (replL n z).length = n * z.length
  | 0 => by simp [replL]
  | n + 1 => by simp [replL, appL_eq, replL_len z n, Nat.succ_mul, Nat.add_comm]
theorem replL_get (z : List AV) : ∀ (n j : Nat), j < n * z.length → (replL n z)[j]? = z[j % z.length]?
  | 0, j, h => by simp at h
  | n + 1, j, h => by
    rw [Nat.succ_mul] at h
    simp only [replL, appL_eq]
    by_cases hj : j < z.length
    · rw [List.getElem?_append_left hj, Nat.mod_eq_of_lt hj]
    · rw [List.getElem?_append_right (by omega), replL_get z n _ (by omega)]
      congr 1
      rw [Nat.mod_eq_sub_mod (Nat.le_of_not_lt hj)]

section
variable {cx : Cx} {β : Nat → Nat × Nat} {σ : St} {a : Act} {w : World}

theorem sliceElem_ok {P : Program} {T : Nat → Option TI} (hT : TOK P T) {t e : Nat} {ei : TI} (h : sliceElem T t = some (e, ei)) : P.underlying t = some (.slice e) ∧ T e = some ei := by
  unfold sliceElem at h
  split at h
  · rename_i ti hti
    obtain ⟨inf, z, hi, hz, hsz, hby, hzc, hd, ud, hu, hag⟩ := tok_info hT hti
    split at h
    · rename_i e' hdesc
      split at h
      · rename_i ei' hei
        simp only [Option.some.injEq, Prod.mk.injEq] at h
        obtain ⟨rfl, rfl⟩ := h
        exact ⟨td_sl (hd.trans hdesc), hei⟩
      · cases h
    · cases h
  · cases h

/-- the cells of an array whose elements are filled with a zero value -/
theorem zeros_ok (l : List Value) (c : Array Value) (hc : c.toList = l) (n : Nat) :
    ((Array.range (n * c.size)).map fun i => c[i % c.size]!).size = n * l.length ∧ ∀ (j : Nat), j < n * l.length → ((Array.range (n * c.size)).map fun i => c[i % c.size]!)[j]? = some (c[j % c.size]!) := by
  subst hc
  refine ⟨by simp, fun j hj => ?_⟩
  simp only [Array.length_toList] at hj
  simp [hj]
theorem zero_at (l : List Value) (c : Array Value) (hc : c.toList = l) (j : Nat) (hj : 0 < l.length) : l[j % l.length]? = some (c[j % c.size]!) := by
  subst hc
  simp only [Array.length_toList] at hj ⊢
  have := Nat.mod_lt j hj
  rw [Array.getElem?_toList, Array.getElem?_eq_getElem this, getElem!_pos c _ this]

theorem buildSlice_sound {T : Nat → Option TI} (hT : TOK cx.P T) (h : Rel cx β σ a w) {o : Oper} {t len : Nat} {parts : Array (Nat × Operand)} (ho : o.op = .buildSlice t len parts) (d : Nat) {pre : Prop} {v : AV} {upd : List (Nat × Blk)} {rd : List Nat}
    (hs : buildSliceF std T σ.B d t len (mapP σ.ev parts.toList) = .ok pre v upd rd) (hp : pre) : Snd cx.P o cx σ a w v upd := by
  obtain ⟨hp1, hp2⟩ := parts_ok h parts
  unfold buildSliceF at hs
  split at hs
  · cases hs
  · rename_i e ei hse
    obtain ⟨hue, hei⟩ := sliceElem_ok hT hse
    obtain ⟨ie, z, hie, hze, hsz, hby, hzc, hd, ud, hu, hag⟩ := tok_info hT hei
    split at hs
    · rename_i cs hle hcs
      split at hs
      · rename_i q cs' l hvs
        split at hs
        rotate_left
        · cases hs
        rename_i hdl hio
        simp only [SR.ok.injEq] at hs
        obtain ⟨rfl, rfl, rfl, -⟩ := hs
        have hle0 : len * (ei.size + 1) ≤ 16777216 := leN_le hle
        rw [Nat.mul_succ] at hle0
        have hle : len * ei.size ≤ 16777216 := by omega
        have hle1 : len ≤ maxLen := by simp only [maxLen]; omega
        have hzl := tok_zero hT hei
        have hzs : (replL len (mapL AV.val ei.zero)).length = len * ei.size := by rw [replL_len, mapL_eq, List.length_map, hzl]
        -- the zero cells
        let zr : Array Value := if len * ei.size = 0 then #[] else z.cells
        let c0 : Array Value := (Array.range (len * ei.size)).map (fun i => zr[i % zr.size]!)
        have hc0 : c0.size = (replL len (mapL AV.val ei.zero)).length := by rw [hzs]; simp [c0]
        have hzc' : z.cells.size = ei.size := by rw [← hzl, ← hzc]; simp
        have hc0' : ∀ (j : Nat) (x : AV), (replL len (mapL AV.val ei.zero))[j]? = some x → ∃ y, c0[j]? = some y ∧ Rep w (Fr cx w β σ.B) β σ.B x y := by
          intro j x hx
          have hj : j < len * ei.size := by
            rcases Nat.lt_or_ge j (len * ei.size) with hj | hj
            · exact hj
            · rw [List.getElem?_eq_none (by rw [hzs]; exact hj)] at hx; cases hx
          have hne : ¬ (len * ei.size = 0) := by omega
          have hpos : 0 < ei.size := by
            rcases Nat.eq_zero_or_pos ei.size with h0 | h0
            · rw [h0] at hj; simp at hj
            · exact h0
          rw [replL_get _ _ _ (by rw [mapL_eq, List.length_map, hzl]; exact hj), mapL_eq, List.length_map, List.getElem?_map, zero_at _ _ hzc j (by omega)] at hx
          simp only [Option.map_some, Option.some.injEq] at hx
          subst hx
          refine ⟨_, ?_, .cl (.val _)⟩
          simp only [c0, zr, if_neg hne]
          simp [hj]
        obtain ⟨c', r1, r2, r2', r3⟩ := fill_sound _ _ _ _ _ _ hcs hc0 hc0' hp1 hp2
        have hlen : c'.size = len * ei.size := by rw [r2, r2', hzs]
        have hcslen : cs.length = len * ei.size := by rw [r2', hzs]
        obtain ⟨v1, v2, v3⟩ := views_sound (view0_sound h) cs (fun j => (c'[j]?).getD undef) _ _ _ hvs hp (fun j x hx => by
          obtain ⟨y, hy, hr⟩ := r3 j x hx
          rw [hy]; exact hr)
        have hone : ∀ (j : Nat) (x : AV), cs[j]? = some x → ∃ y, c'[j]? = some y ∧ y.oneCell' = true := fun j x hx => by
          obtain ⟨y, hy, hr⟩ := r3 j x hx
          exact ⟨y, hy, hr.oneCell (views_one _ hvs j x hx)⟩
        have hdl' : d ∉ l := by rw [memN_eq] at hdl; simpa using hdl
        have hio' : ioId ∉ l := by unfold noIo at hio; rw [memN_eq] at hio; simpa using hio
        obtain ⟨q1, q2, q3, q4⟩ := Rel.freezeL (B0 := σ.B) l h (fun e he => ⟨fun hc => hio' (hc ▸ he), v2 e he⟩) (fun e => .inl rfl)
        have hBd : (⟨σ.s, updL (freezes σ.B l) σ.b⟩ : St).B d = σ.B d := by show getB d _ = _; rw [q4 d, if_neg hdl']
        have hF1 : ∀ b, F1 cx w β σ.B l b → Fr cx w β (⟨σ.s, updL (freezes σ.B l) σ.b⟩ : St).B b := fun b hb => by
          rcases hb with hb | ⟨e, he, rfl⟩
          · exact q2 b hb
          · exact q3 e he
        have hrepc : ∀ (j : Nat) (x : AV), cs'[j]? = some x → ∃ y, c'[j]? = some y ∧ y.oneCell' = true ∧ RepC w (Fr cx w β (⟨σ.s, updL (freezes σ.B l) σ.b⟩ : St).B) x y := fun j x hx => by
          have hj : j < cs.length := by rw [← v1]; exact (List.getElem?_eq_some_iff.1 hx).1
          obtain ⟨y, hy, h1⟩ := hone j _ (List.getElem?_eq_getElem hj)
          refine ⟨y, hy, h1, ?_⟩
          have := (v3 j x hx).mono hF1 (fun _ _ _ => rfl)
          rwa [hy] at this
        obtain ⟨g1, g2⟩ := chunk_get ei.size len cs' (by rw [v1, hcslen])
        obtain ⟨β', hR⟩ := q1.alloc (d := d) (x := .arr false false (Nat.succ (σ.B d).gen) ei.size (intN len) (elemF std ei.size (chunk ei.size len cs') 0)) (dst := o.dst) (v := .sl d (Nat.succ (σ.B d).gen) (intN len))
          (u := .slice (some ⟨w.heap.size, 0, none⟩) len len) (c := c') (t := e) (fr := (0, 0)) len trivial (by rw [hBd]; rfl)
          (fun w' F' β' B' _ h2 h3 h4 h5 => arr_ok h2 h3 h4 h5 (len := len) (intN_eq len) hlen (Nat.le_refl _) hle1 (by simp) (fun _ => rfl) (fun i hi => by
            obtain ⟨c, e1, e2, e3⟩ := g2 i hi
            obtain ⟨q1, q2⟩ := elemF_get ei.size (chunk ei.size len cs') 0 i c e1 (fun x hx => by
              obtain ⟨m, hm, rfl⟩ := List.mem_iff_getElem.1 hx
              rw [g1] at hm
              obtain ⟨c2, z1, z2, z3⟩ := g2 m hm
              rw [List.getElem?_eq_getElem (by rw [g1]; exact hm)] at z1
              simp only [Option.some.injEq] at z1
              rw [z1]; exact z2)
            rw [Nat.zero_add] at q1 q2
            refine ⟨q1, fun j x hx => ?_⟩
            obtain ⟨y, hy, hw⟩ := q2 j x hx
            have hj : j < ei.size := by rw [← e2]; exact (List.getElem?_eq_some_iff.1 hy).1
            rw [e3 j hj] at hy
            obtain ⟨u, hu, ho, hr⟩ := hrepc _ y hy
            exact ⟨u, hu, ho, hw.rep hr⟩))
          (fun w' F' β' B' h4 h5 => .sl d _ _ _ rfl (by rw [h5]; exact Nat.le_refl _) (fun fz fx sz n0 f hb => by rw [h5] at hb; simp only [Blk.arr.injEq] at hb; rw [hb.2.2.2.2.1]; exact Int.le_refl _)
            (fun fz fx sz f hb => by rw [h4, intN_eq]; rfl))
        have hR : Rel cx β' ((σ.put o.dst (.sl d (Nat.succ (σ.B d).gen) (intN len))).upd (appL (freezes σ.B l) [(d, .arr false false (Nat.succ (σ.B d).gen) ei.size (intN len) (elemF std ei.size (chunk ei.size len cs') 0))])) (a.put o.dst (.slice (some ⟨w.heap.size, 0, none⟩) len len)) (w.alloc (.cells c' e (0, 0))) := by
          have e1 : ((⟨σ.s, updL (freezes σ.B l) σ.b⟩ : St).put o.dst (.sl d (Nat.succ (σ.B d).gen) (intN len))).upd [(d, .arr false false (Nat.succ (σ.B d).gen) ei.size (intN len) (elemF std ei.size (chunk ei.size len cs') 0))] =
              (σ.put o.dst (.sl d (Nat.succ (σ.B d).gen) (intN len))).upd (appL (freezes σ.B l) [(d, .arr false false (Nat.succ (σ.B d).gen) ei.size (intN len) (elemF std ei.size (chunk ei.size len cs') 0))]) := by
            rw [St.upd_eq, St.upd_eq, appL_eq, updL_append]
            cases o.dst <;> rfl
          rw [← e1]; exact hR
        refine ⟨_, _, β', .inl ?_, hR⟩
        have h24 : ¬ (len * ei.size > 2 ^ 24) := by omega
        have r1' : Instr.fill (fun i => some (i * ei.size, ei.size)) c0 (parts.map fun (i, x) => (i, a.eval x)).toList = some c' := r1
        unfold execOp
        simp only [ho, Instr.buildSlice, Sem.run_bind, run_underlying hue, Result.andThen_ok, run_sizeOf hie, hsz, h24, if_false]
        by_cases h0 : len * ei.size = 0
        · have r0 : Instr.fill (fun i => some (i * ei.size, ei.size)) ((Array.range (len * ei.size)).map (fun i => (#[] : Array Value)[i % (#[] : Array Value).size]!)) (parts.map fun (i, x) => (i, a.eval x)).toList = some c' := by
            have := r1'; simp only [c0, zr, if_pos h0] at this; exact this
          rw [if_pos h0]
          simp only [Sem.run_bind, Sem.run_pure, Result.andThen_ok, r0]
          rfl
        · have r0 : Instr.fill (fun i => some (i * ei.size, ei.size)) ((Array.range (len * ei.size)).map (fun i => z.cells[i % z.cells.size]!)) (parts.map fun (i, x) => (i, a.eval x)).toList = some c' := by
            have := r1'; simp only [c0, zr, if_neg h0] at this; exact this
          rw [if_neg h0]
          simp only [Sem.run_bind, Sem.run_pure, Result.andThen_ok, run_zero hie hze, r0]
          rfl
      · cases hs
    · cases hs

theorem wrap_self {n : Int} (h0 : 0 ≤ n) (h1 : n ≤ 4611686018427387904) : IntKind.i64.wrap n = n := by
  have : IntKind.i64.wrap n = if (n % 18446744073709551616 : Int) ≥ 9223372036854775808 then n % 18446744073709551616 - 18446744073709551616 else n % 18446744073709551616 := by
    simp [IntKind.wrap, IntKind.bits, IntKind.signed]
  rw [this, Int.emod_eq_of_lt h0 (by omega), if_neg (by omega)]

theorem makeSlice_sound {T : Nat → Option TI} (hT : TOK cx.P T) (h : Rel cx β σ a w) {o : Oper} {t : Nat} {x y : Operand} (ho : o.op = .makeSlice t x y) (d : Nat) {pre : Prop} {v : AV} {upd : List (Nat × Blk)} {rd : List Nat}
    (hs : makeSliceF std T σ.B d t (σ.ev x) (σ.ev y) = .ok pre v upd rd) (hp : pre) : Snd cx.P o cx σ a w v upd := by
  unfold makeSliceF at hs
  split at hs
  · rename_i e ei k n k' c hse hx hy
    obtain ⟨hue, hei⟩ := sliceElem_ok hT hse
    obtain ⟨ie, z, hie, hze, hsz, hby, hzc, hd, ud, hu, hag⟩ := tok_info hT hei
    split at hs
    · cases hs
    · rename_i m hm
      split at hs
      · rename_i hcl
        simp only [SR.ok.injEq] at hs
        obtain ⟨rfl, rfl, rfl, -⟩ := hs
        obtain ⟨rfl, h0, hb, hmx⟩ := hp
        have hxv := (hx ▸ h.ev x).val_inv
        have hyv := (hy ▸ h.ev y).val_inv
        obtain ⟨len, rfl⟩ : ∃ len : Nat, c = len := ⟨c.toNat, by omega⟩
        rw [allB_eq, List.all_eq_true] at hcl
        have hzl := tok_zero hT hei
        have hzc' : z.cells.size = ei.size := by rw [← hzl, ← hzc]; simp
        have hpos : 0 < ei.size := by omega
        obtain ⟨q1, q2⟩ := zeros_ok ei.zero z.cells hzc len
        rw [hzl] at q1 q2
        have hmax : len ≤ maxLen := by simp only [maxLen]; omega
        have hcell : ∀ i : Nat, i < len → (mapL AV.val ei.zero).length = ei.size ∧ ∀ (j : Nat) (x : AV), (mapL AV.val ei.zero)[j]? = some x →
            ∃ u : Value, ((Array.range (len * z.cells.size)).map fun i => z.cells[i % z.cells.size]!)[i * ei.size + j]? = some u ∧ u.oneCell' = true ∧ RepC w (Fr cx w β σ.B) x u := by
          intro i hi
          refine ⟨by rw [mapL_eq, List.length_map, hzl], fun j x hx => ?_⟩
          rw [mapL_eq, List.getElem?_map] at hx
          have hj : j < ei.size := by
            rcases Nat.lt_or_ge j ei.size with hj | hj
            · exact hj
            · rw [List.getElem?_eq_none (by rw [hzl]; exact hj)] at hx; cases hx
          have hlt : i * ei.size + j < len * ei.size := by
            have : (i + 1) * ei.size ≤ len * ei.size := Nat.mul_le_mul_right _ hi
            rw [Nat.succ_mul] at this; omega
          have hmod : (i * ei.size + j) % ei.size = j := by rw [Nat.mul_comm, Nat.mul_add_mod]; exact Nat.mod_eq_of_lt hj
          have hz0 := zero_at ei.zero z.cells hzc (i * ei.size + j) (by omega)
          rw [hzl, hmod] at hz0
          rw [hz0] at hx
          simp only [Option.map_some, Option.some.injEq] at hx
          have hmem : x ∈ mapL AV.val ei.zero := by
            rw [mapL_eq, ← hx]
            have hz1 := zero_at ei.zero z.cells hzc (i * ei.size + j) (by omega)
            exact List.mem_map.2 ⟨_, List.mem_of_getElem? hz1, rfl⟩
          have h1 := clC_oneC (hcl x hmem)
          subst hx
          exact ⟨_, q2 _ hlt, oneCell_val h1, .val _⟩
        obtain ⟨β', hR⟩ := h.alloc (d := d) (x := .arr false false (Nat.succ (σ.B d).gen) ei.size (len : Int) (fun _ => mapL AV.val ei.zero)) (dst := o.dst) (v := .sl d (Nat.succ (σ.B d).gen) (len : Int))
          (u := .slice (some ⟨w.heap.size, 0, none⟩) len len) (c := (Array.range (len * z.cells.size)).map fun i => z.cells[i % z.cells.size]!) (t := e) (fr := (0, 0)) len trivial rfl
          (fun w' F' β' B' _ h2 h3 h4 h5 => arr_ok h2 h3 h4 h5 (len := len) rfl q1 (Nat.le_refl _) hmax (by simp) (fun _ => rfl) hcell)
          (fun w' F' β' B' h4 h5 => .sl d _ _ _ rfl (by rw [h5]; exact Nat.le_refl _) (fun fz fx sz n0 f hb => by rw [h5] at hb; simp only [Blk.arr.injEq] at hb; rw [hb.2.2.2.2.1]; exact Int.le_refl _)
            (fun fz fx sz f hb => by rw [h4]; rfl))
        refine ⟨_, _, β', .inl ?_, hR⟩
        have hby' : (ie.bytes : Int) * (len : Int) ≤ 281474976710656 := by rw [hby, Int.mul_comm]; exact hb
        have hrun := run_make (P := cx.P) w t e ie z hue hie hze k k' len len h0 (Int.le_refl _) hby' (by omega)
        simp only [Int.toNat_natCast] at hrun
        unfold execOp
        simp only [ho, hxv, hyv, Sem.run_bind, hrun, Result.andThen_ok, Sem.run_pure]
        rw [hsz, ← hzc']
        rfl
      · cases hs
  · cases hs

/-- bounds of a cut -/
theorem bounds_ok {P : Program} {isSl : Bool} {len cap : Nat} {lo hi : Option Operand} {l hh n : Int} (ρ : Operand → Value) (hlo : ∀ x k i, lo = some x → σ.ev x = .val (.int k i) → ρ x = .int k i) (hhi : ∀ x k i, hi = some x → σ.ev x = .val (.int k i) → ρ x = .int k i)
    (hb : cutB n (optMap σ.ev lo) (optMap σ.ev hi) = some (l, hh)) (hn : n = (len : Int)) (hcap : len ≤ cap) (hc : 0 ≤ l ∧ l ≤ hh ∧ hh ≤ n) :
    (Instr.sliceBounds isSl len cap (lo.map ρ) (hi.map ρ) none).run P w = .ok (l.toNat, hh.toNat, cap) w := by
  obtain ⟨c1, c2, c3⟩ := hc
  cases lo with
  | none =>
    cases hi with
    | none =>
      simp only [optMap, cutB, Option.some.injEq, Prod.mk.injEq] at hb
      obtain ⟨rfl, rfl⟩ := hb
      simp [Instr.sliceBounds, hn]
    | some y =>
      cases hy : σ.ev y with
      | val v =>
        cases v with
        | int k i =>
          simp only [optMap, cutB, hy, Option.some.injEq, Prod.mk.injEq] at hb
          obtain ⟨rfl, rfl⟩ := hb
          have h1 := hhi y k i rfl hy
          have h2 : i ≤ (cap : Int) := by omega
          simp [Instr.sliceBounds, h1, Instr.sliceBound, asIntOf, c2, h2]
        | _ => simp [optMap, cutB, hy] at hb
      | _ => simp [optMap, cutB, hy] at hb
  | some x =>
    cases hx : σ.ev x with
    | val v =>
      cases v with
      | int k i =>
        have h1 := hlo x k i rfl hx
        cases hi with
        | none =>
          simp only [optMap, cutB, hx, Option.some.injEq, Prod.mk.injEq] at hb
          obtain ⟨rfl, rfl⟩ := hb
          have h2 : i ≤ (len : Int) := by omega
          simp [Instr.sliceBounds, h1, Instr.sliceBound, asIntOf, c1, h2, hn]
        | some y =>
          cases hy : σ.ev y with
          | val v =>
            cases v with
            | int k2 j =>
              simp only [optMap, cutB, hx, hy, Option.some.injEq, Prod.mk.injEq] at hb
              obtain ⟨rfl, rfl⟩ := hb
              have h1' := hhi y k2 j rfl hy
              have h2 : j ≤ (cap : Int) := by omega
              have h3 : 0 ≤ j := by omega
              have h4 : i ≤ ((j.toNat : Nat) : Int) := by omega
              simp only [Instr.sliceBounds, Option.map_some, h1, h1', Sem.run_bind, Sem.run_pure, Result.andThen_ok]
              rw [run_sliceBound _ _ _ _ _ h3 h2]
              simp only [Result.andThen_ok]
              rw [run_sliceBound _ _ _ _ _ c1 h4]
              rfl
            | _ => simp [optMap, cutB, hx, hy] at hb
          | _ => simp [optMap, cutB, hx, hy] at hb
      | _ => cases hi <;> simp [optMap, cutB, hx] at hb
    | _ => cases hi <;> simp [optMap, cutB, hx] at hb

end
end AB
end
