/- Part 15 of the proof: an abstract machine over the translated code, the functions' contracts, and the plain law. -/
import Derived.WalkKit
import Derived.BigCall
import Derived.Test.YtpodjaolnceggaaDoorM14
set_option linter.unusedSimpArgs false
set_option linter.unusedVariables false
set_option linter.unusedSectionVars false
section
open Go AB
namespace S
open Go.Proofs Go.RowKit
variable {G : GI}
set_option maxRecDepth 1000000
theorem in_calls (w : World) (n lo hi : Int) : Calls Tryd.prog 120 #[.int .i64 n, .int .i64 lo, .int .i64 hi] w fun e w' => e = .returned (.bool (decide (lo ≤ n ∧ n ≤ hi))) ∧ w' = w := by
  go_enter Tryd.func120, Tryd.ntmps120
  go_wp2
  all_goals (go_ret; refine ⟨?_, rfl⟩; congr 2; simp [*]; try omega)
theorem ok_below {w w' : World} (hG : G.ok w) (h : RowKit.Below w.heap.size w w') : G.ok w' :=
  ⟨Nat.le_trans hG.1 h.size, fun b hb => (h.block b (Nat.lt_of_lt_of_le hb hG.1)).trans (hG.2 b hb)⟩
theorem bytes_eq {a b : ByteArray} : a.toList = b.toList ↔ a = b := by
  have := std_seq a b
  have h2 : std.seq a b = (a.toList == b.toList) := rfl
  rw [h2] at this
  constructor
  · intro h; rw [h] at this; simpa using this.symm
  · rintro rfl; rfl
set_option maxHeartbeats 1000000 in
theorem parse_ok [hE : Env G] (a : ByteArray) (w : World) (hG : G.ok w) (hs : a.size ≤ 281474976710656) (v : Int) (h : Lib.atoiAll a.data.toList = .ok v) :
    Calls Tryd.prog 36 #[.string a] w fun e w' => e = .returned (.tuple #[.int .i64 (parse a).1, .bool (parse a).2]) ∧ RowKit.Below w.heap.size w w' := by
  have hb := Lib.atoiAll_bounds h
  obtain ⟨p, hpd⟩ : ∃ x, x = parse a := ⟨_, rfl⟩
  have hp : parse a = if num v = a ∧ -999999 ≤ v ∧ v ≤ 999999 then (v, true) else (0, false) := by simp only [parse, h]
  rw [← hpd] at hp ⊢
  clear hpd
  go_enter Tryd.func36, Tryd.ntmps36
  go_wp2_with (go_at_call 128; refine (Tryd.strconv_Atoi_ok a (by omega) v h _).mono ?_; rintro e w1 ⟨rfl, hw⟩)
  have hw1 : RowKit.Below w.heap.size w w1 := by
    rcases hw with rfl | ⟨t, rfl⟩
    · exact Below.refl _ _
    · exact Lib.bytesWorld_below _ _ _
  clear hw
  have hG1 := ok_below hG hw1
  obtain ⟨s, hsd⟩ : ∃ x, x = num v := ⟨_, rfl⟩
  have hit := fun w hG => itoa_calls (G := G) w hG v hb.1 hb.2
  rw [← hsd] at hit hp
  clear hsd
  go_wp2_with (go_at_call 125; refine (hit _ hG1).mono ?_; rintro e w2 ⟨rfl, hw2⟩)
  all_goals
    have hw2' := hw1.trans (hw2.mono hw1.size)
  · have he : s.toList = a.toList := by assumption
    obtain ⟨r, hr⟩ : ∃ x, x = decide (-999999 ≤ v ∧ v ≤ 999999) := ⟨_, rfl⟩
    have hin := fun w => in_calls w v (-999999) 999999
    rw [← hr] at hin
    go_at_call 120
    refine (hin _).mono ?_
    rintro e w3 ⟨rfl, rfl⟩
    cases r
    · rw [if_neg (by rintro ⟨_, h2⟩; simp [h2] at hr)] at hp
      subst hp
      clear hr
      go_wp2
      go_ret2
      exact ⟨rfl, hw2'⟩
    · rw [if_pos ⟨bytes_eq.1 he, by simpa using hr⟩] at hp
      subst hp
      clear hr
      go_wp2
      go_ret2
      exact ⟨rfl, hw2'⟩
  · have he : ¬ s.toList = a.toList := by assumption
    rw [if_neg (fun h => he (bytes_eq.2 h.1))] at hp
    subst hp
    go_ret2
    exact ⟨rfl, hw2'⟩
theorem parse_no [hE : Env G] (a : ByteArray) (w : World) (hG : G.ok w) (hs : a.size ≤ 281474976710656) (h : ∀ v, Lib.atoiAll a.data.toList ≠ .ok v) :
    Calls Tryd.prog 36 #[.string a] w fun e w' => e = .returned (.tuple #[.int .i64 (parse a).1, .bool (parse a).2]) ∧ RowKit.Below w.heap.size w w' := by
  obtain ⟨p, hpd⟩ : ∃ x, x = parse a := ⟨_, rfl⟩
  have hp : parse a = (0, false) := by
    unfold parse
    split
    · rename_i hv; exact absurd hv (h _)
    · rfl
  rw [← hpd] at hp ⊢
  clear hpd
  subst hp
  obtain ⟨e1, he1, h1⟩ := hE.e1
  obtain ⟨e2, he2, h2⟩ := hE.e2
  replace h1 := h1 w hG
  replace h2 := h2 w hG
  have hA : ∃ q, Calls Tryd.prog 128 #[.string a] w fun e w' => ∃ N, e = .returned (.tuple #[.int .i64 q, .iface 177 (.pointer (some ⟨N, 0, none⟩))]) ∧ RowKit.Below w.heap.size w w' := by
    cases hd : Lib.atoiAll a.data.toList with
    | ok v => exact absurd hd (h v)
    | range => exact ⟨_, (Tryd.strconv_Atoi_range a hs hd e2 w h2 he2).mono (by rintro e w' ⟨N, h3, _, _, h4⟩; exact ⟨N, h3, h4⟩)⟩
    | _ => exact ⟨_, (Tryd.strconv_Atoi_syntax a hs hd e1 w h1 he1).mono (by rintro e w' ⟨N, h3, _, _, h4⟩; exact ⟨N, h3, h4⟩)⟩
  clear h1 h2 he1 he2
  obtain ⟨q, hq⟩ := hA
  go_enter Tryd.func36, Tryd.ntmps36
  go_wp2_with (go_at_call 128; refine hq.mono ?_)
  rintro e W1 ⟨N, rfl, hb⟩
  go_wp2
  go_ret2
  exact ⟨rfl, hb⟩
theorem x_ParseInt_con [hE : Env G] (a : ByteArray) (r1 : Int) (r2 : Bool) (h : x_ParseInt a = some (r1, r2)) : Con P G 36 none [.val (.string a)] (.tup [.val (.int .i64 r1), .val (.bool r2)]) none := by
  unfold x_ParseInt at h
  split at h
  · rename_i hb
    have h' : parse a = (r1, r2) := by simpa using h
    refine con_plainT («as» := [.string a]) («vs» := [.int .i64 r1, .bool r2]) ⟨_, Tryd.func36, rfl, rfl⟩ fun w hG => ?_
    by_cases hv : ∃ v, Lib.atoiAll a.data.toList = .ok v
    · obtain ⟨v, hv⟩ := hv
      refine (parse_ok (G := G) a w hG hb v hv).mono ?_
      rintro e w' ⟨rfl, hw⟩
      rw [h']
      exact ⟨rfl, belowX hw⟩
    · refine (parse_no (G := G) a w hG hb (fun v hv' => hv ⟨v, hv'⟩)).mono ?_
      rintro e w' ⟨rfl, hw⟩
      rw [h']
      exact ⟨rfl, belowX hw⟩
  · cases h
end S
end
section
open Go AB
namespace S
open Go.Proofs
variable {G : GI} [Env G]
end S
end
section
open Go AB
namespace S
open Go.Proofs
variable {G : GI} [Env G]
set_option maxRecDepth 1000000
set_option linter.unusedVariables false
set_option maxHeartbeats 4000000
/-- loop.example/g01248/impl.checksum -/
noncomputable def impl_checksum_s2 (a1 : ByteArray) : (Int × Int) → Option ((Int × Int) ⊕ ((Int) ⊕ (Int)))
  | (x18, x19) =>
  cnd (std.lt x19 (std.slen a1)) (
    grd (std.isin x19 (std.slen a1)) <|
    grd (std.nz 999979) <|
    some (.inl (std.rem .i64 (std.add .i64 (std.add .i64 (std.mul .i64 41 x18) (std.conv .i64 (std.sat a1 x19))) 1) 999979, std.add .i64 x19 1))) (
    out (
      some (.inl x18)))
noncomputable def impl_checksum (K : Nat) (a1 : ByteArray) : Option Int :=
  cut (
    loopF (impl_checksum_s2 a1) K ((7, 0) : Int × Int)) fun (x15 : Int) =>
  some x15
theorem impl_checksum_con (K : Nat) (a1 : ByteArray) (r1 : Int) (h0 : impl_checksum K a1 = some r1) : Con P G 131 none [.val (.string a1)] (.val (.int .i64 r1)) none := by
  refine con_by tok mo Tryd.func131 rfl rfl (by (first | (rintro _ ⟨rfl⟩; simp; done) | (simp; done) | (intro _ hq; cases hq))) (by (first | (rintro _ _ ⟨rfl⟩ ⟨rfl⟩; rfl) | (simp; done))) ?_
  (rintro ⟨⟨add, sub, mul, quo, rem, neg, bits, shl, shr, lt, le, eq, beq, bnot, band, conv, imin, imax, slen, sat, ssub, scat, seq, slt, ofB, nadd, nsub, selI, selS, selB, selF, isin, cut, fits, nz, makes, cats, shok⟩, C, D, W, S, N⟩ hp; replace hp := AB.isReal hp)
  unfold impl_checksum at h0
  ((try rw [← hp.L] at h0); (try dsimp only at h0))
  (cbv; repeat (refine hp.N ?_; cbv))
  replace h0 := cut_inv h0
  obtain ⟨o1, h1, g1⟩ := h0
  refine hp.S (Int) (fun y => o1 = .inl y) (fun x15 σ => ⟨frS [(0, .any), (2, .any), (3, .val (.int .i64 x15))] 4 0 σ.s, []⟩) ?_ ?_
  · (cbv; repeat (refine hp.N ?_; cbv))
    refine hp.W (Int × Int) (fun x k => loopF (impl_checksum_s2 a1) k x = some o1) (fun ⟨x18, x19⟩ σ => ⟨frS [(2, .any), (3, .val (.int .i64 x18)), (5, .any), (7, .val (.int .i64 x19))] 8 0 σ.s, []⟩) ⟨((7, 0) : Int × Int), K, h1, [], ?_⟩ ?_
    · (cbv; repeat (refine hp.N ?_; cbv))
      (repeat' (first | trivial | exact AB.sub_refl _ | exact AB.sub_any _ | exact rfl | exact AB.cells_eq (fun _ _ _ => rfl) | exact AB.sub_lst rfl (fun _ _ _ => rfl) | exact AB.sub_nil _ | (refine AB.sub_lst rfl ?_; intro i h0 h1; exact absurd (Int.lt_of_le_of_lt h0 h1) (by decide)) | (intro hq; exact absurd hq (by decide)) | exact AB.subLn | refine AB.subLc ?_ ?_ | refine AB.sub_agg ?_ | (refine AB.sub_lst' ?_; intro _ _ _) | exact (fun _ => AB.own_val _ _ (fun _ => rfl)) | (intro i h0 h1; exact absurd (Int.lt_of_le_of_lt h0 h1) (by decide)) | refine ⟨?_, ?_⟩))
    · rintro ⟨x18, x19⟩ k2 hI
      replace hI := loopF_inv hI
      obtain ⟨m2, o2, l2, h2, g2⟩ := hI
      unfold impl_checksum_s2 at h2
      try dsimp only at h2
      ((try rw [← hp.L] at h2); (try dsimp only at h2))
      (cbv; repeat (refine hp.N ?_; cbv))
      replace h2 := cnd_inv h2
      rcases h2 with ⟨c1, h2⟩ | ⟨c1, h2⟩
      · rw [c1]
        (cbv; repeat (refine hp.N ?_; cbv))
        replace h2 := grd_inv h2
        obtain ⟨p2, h2⟩ := h2
        refine ⟨by (first | exact p2 | exact ⟨rfl, p2⟩ | exact ⟨p2, trivial⟩ | exact ⟨rfl, p2, trivial⟩ | exact ⟨p2, fun _ _ => rfl⟩ | exact ⟨rfl, fun _ _ => rfl, p2⟩ | exact ⟨fun _ _ => rfl, p2⟩ | exact ⟨rfl, rfl, p2⟩ | trivial | exact rfl | exact ⟨rfl, trivial⟩ | exact ⟨rfl, rfl⟩), ?_⟩
        (repeat (refine hp.N ?_; cbv))
        replace h2 := grd_inv h2
        obtain ⟨p3, h2⟩ := h2
        refine ⟨by (first | exact p3 | exact ⟨rfl, p3⟩ | exact ⟨p3, trivial⟩ | exact ⟨rfl, p3, trivial⟩ | exact ⟨p3, fun _ _ => rfl⟩ | exact ⟨rfl, fun _ _ => rfl, p3⟩ | exact ⟨fun _ _ => rfl, p3⟩ | exact ⟨rfl, rfl, p3⟩ | trivial | exact rfl | exact ⟨rfl, trivial⟩ | exact ⟨rfl, rfl⟩), ?_⟩
        (repeat (refine hp.N ?_; cbv))
        refine ⟨_, _, ⟨l2, loop_next h2 g2⟩, [], ?_⟩
        (cbv; repeat (refine hp.N ?_; cbv))
        (repeat' (first | trivial | exact AB.sub_refl _ | exact AB.sub_any _ | exact rfl | exact AB.cells_eq (fun _ _ _ => rfl) | exact AB.sub_lst rfl (fun _ _ _ => rfl) | exact AB.sub_nil _ | (refine AB.sub_lst rfl ?_; intro i h0 h1; exact absurd (Int.lt_of_le_of_lt h0 h1) (by decide)) | (intro hq; exact absurd hq (by decide)) | exact AB.subLn | refine AB.subLc ?_ ?_ | refine AB.sub_agg ?_ | (refine AB.sub_lst' ?_; intro _ _ _) | exact (fun _ => AB.own_val _ _ (fun _ => rfl)) | (intro i h0 h1; exact absurd (Int.lt_of_le_of_lt h0 h1) (by decide)) | refine ⟨?_, ?_⟩))
      · rw [c1]
        (cbv; repeat (refine hp.N ?_; cbv))
        replace h1 := loop_out h2 g2
        clear h2 g2
        try rw [c1] at h1
        refine ⟨_, end_eq h1, [], ?_⟩
        (cbv; repeat (refine hp.N ?_; cbv))
        (repeat' (first | trivial | exact AB.sub_refl _ | exact AB.sub_any _ | exact rfl | exact AB.cells_eq (fun _ _ _ => rfl) | exact AB.sub_lst rfl (fun _ _ _ => rfl) | exact AB.sub_nil _ | (refine AB.sub_lst rfl ?_; intro i h0 h1; exact absurd (Int.lt_of_le_of_lt h0 h1) (by decide)) | (intro hq; exact absurd hq (by decide)) | exact AB.subLn | refine AB.subLc ?_ ?_ | refine AB.sub_agg ?_ | (refine AB.sub_lst' ?_; intro _ _ _) | exact (fun _ => AB.own_val _ _ (fun _ => rfl)) | (intro i h0 h1; exact absurd (Int.lt_of_le_of_lt h0 h1) (by decide)) | refine ⟨?_, ?_⟩))
  · rintro x15 ho
    subst ho
    replace h0 := g1
    clear h1 g1
    try dsimp only [cutO] at h0
    (cbv; repeat (refine hp.N ?_; cbv))
    obtain rfl := Option.some.inj h0
    (repeat' (first | trivial | exact AB.sub_refl _ | exact AB.sub_any _ | exact rfl | exact AB.cells_eq (fun _ _ _ => rfl) | exact AB.sub_lst rfl (fun _ _ _ => rfl) | exact AB.sub_nil _ | (refine AB.sub_lst rfl ?_; intro i h0 h1; exact absurd (Int.lt_of_le_of_lt h0 h1) (by decide)) | (intro hq; exact absurd hq (by decide)) | exact AB.subLn | refine AB.subLc ?_ ?_ | refine AB.sub_agg ?_ | (refine AB.sub_lst' ?_; intro _ _ _) | exact (fun _ => AB.own_val _ _ (fun _ => rfl)) | (intro i h0 h1; exact absurd (Int.lt_of_le_of_lt h0 h1) (by decide)) | refine ⟨?_, ?_⟩))
end S
end
section
open Go AB
namespace S
open Go.Proofs
variable {G : GI} [Env G]
set_option maxRecDepth 1000000
set_option linter.unusedVariables false
set_option maxHeartbeats 4000000
/-- loop.example/g01248/impl.AppendChecksum -/
noncomputable def impl_AppendChecksum (K : Nat) (a1 : ByteArray) : Option (ByteArray × Bool) :=
  grd (std.cats a1 ⟨#[35]⟩) <|
  bnd (impl_checksum K a1) fun (x7 : Int) =>
  bnd (x_Itoa x7) fun (x8 : ByteArray) =>
  grd (std.cats (std.scat a1 ⟨#[35]⟩) x8) <|
  cut (
    bnd (x_Contains a1 ⟨#[35]⟩) fun (x11 : Bool) =>
    cnd (x11) (
      some (.inl true)) (
      some (.inl (std.lt 4000 (std.slen (std.scat (std.scat a1 ⟨#[35]⟩) x8)))))) fun (x10 : Bool) =>
  cnd (x10) (
    some (⟨#[]⟩, false)) (
    some (std.scat (std.scat a1 ⟨#[35]⟩) x8, true))
theorem impl_AppendChecksum_con (K : Nat) (a1 : ByteArray) (r1 : ByteArray) (r2 : Bool) (h0 : impl_AppendChecksum K a1 = some (r1, r2)) : Con P G 39 none [.val (.string a1)] (.tup [.val (.string r1), .val (.bool r2)]) none := by
  refine con_by tok mo Tryd.func39 rfl rfl (by (first | (rintro _ ⟨rfl⟩; simp; done) | (simp; done) | (intro _ hq; cases hq))) (by (first | (rintro _ _ ⟨rfl⟩ ⟨rfl⟩; rfl) | (simp; done))) ?_
  (rintro ⟨⟨add, sub, mul, quo, rem, neg, bits, shl, shr, lt, le, eq, beq, bnot, band, conv, imin, imax, slen, sat, ssub, scat, seq, slt, ofB, nadd, nsub, selI, selS, selB, selF, isin, cut, fits, nz, makes, cats, shok⟩, C, D, W, S, N⟩ hp; replace hp := AB.isReal hp)
  unfold impl_AppendChecksum at h0
  ((try rw [← hp.L] at h0); (try dsimp only at h0))
  (cbv; repeat (refine hp.N ?_; cbv))
  replace h0 := grd_inv h0
  obtain ⟨p1, h0⟩ := h0
  refine ⟨by (first | exact p1 | exact ⟨rfl, p1⟩ | exact ⟨p1, trivial⟩ | exact ⟨rfl, p1, trivial⟩ | exact ⟨p1, fun _ _ => rfl⟩ | exact ⟨rfl, fun _ _ => rfl, p1⟩ | exact ⟨fun _ _ => rfl, p1⟩ | exact ⟨rfl, rfl, p1⟩ | trivial | exact rfl | exact ⟨rfl, trivial⟩ | exact ⟨rfl, rfl⟩), ?_⟩
  (repeat (refine hp.N ?_; cbv))
  replace h0 := bnd_inv h0
  obtain ⟨x7, q2, h0⟩ := h0
  (first | refine .inl (hp.C _ (impl_checksum_con K _ _ q2) ?_) | refine .inl ⟨by (first | trivial | exact rfl | exact ⟨rfl, rfl⟩ | exact ⟨rfl, trivial⟩ | exact ⟨trivial, rfl⟩ | (refine ⟨?_, ?_⟩ <;> first | trivial | exact rfl)), hp.C _ (impl_checksum_con K _ _ q2) ?_⟩ | refine hp.C _ (impl_checksum_con K _ _ q2) ?_)
  (cbv; repeat (refine hp.N ?_; cbv))
  replace h0 := bnd_inv h0
  obtain ⟨x8, q3, h0⟩ := h0
  (first | refine .inl (hp.C _ (x_Itoa_con _ _ q3) ?_) | refine .inl ⟨by (first | trivial | exact rfl | exact ⟨rfl, rfl⟩ | exact ⟨rfl, trivial⟩ | exact ⟨trivial, rfl⟩ | (refine ⟨?_, ?_⟩ <;> first | trivial | exact rfl)), hp.C _ (x_Itoa_con _ _ q3) ?_⟩ | refine hp.C _ (x_Itoa_con _ _ q3) ?_)
  (cbv; repeat (refine hp.N ?_; cbv))
  replace h0 := grd_inv h0
  obtain ⟨p4, h0⟩ := h0
  refine ⟨by (first | exact p4 | exact ⟨rfl, p4⟩ | exact ⟨p4, trivial⟩ | exact ⟨rfl, p4, trivial⟩ | exact ⟨p4, fun _ _ => rfl⟩ | exact ⟨rfl, fun _ _ => rfl, p4⟩ | exact ⟨fun _ _ => rfl, p4⟩ | exact ⟨rfl, rfl, p4⟩ | trivial | exact rfl | exact ⟨rfl, trivial⟩ | exact ⟨rfl, rfl⟩), ?_⟩
  (repeat (refine hp.N ?_; cbv))
  replace h0 := cut_inv h0
  obtain ⟨o1, h1, g1⟩ := h0
  refine hp.S (Bool) (fun y => o1 = .inl y) (fun x10 σ => ⟨frS [(0, .any), (2, .any), (3, .any), (5, .any), (6, .any), (7, .any), (8, .any), (9, .any), (10, .any), (17, .val (.bool x10))] 18 0 σ.s, []⟩) ?_ ?_
  · (cbv; repeat (refine hp.N ?_; cbv))
    replace h1 := bnd_inv h1
    obtain ⟨x11, q5, h1⟩ := h1
    (first | refine .inl (hp.C _ (x_Contains_con _ _ _ q5) ?_) | refine .inl ⟨by (first | trivial | exact rfl | exact ⟨rfl, rfl⟩ | exact ⟨rfl, trivial⟩ | exact ⟨trivial, rfl⟩ | (refine ⟨?_, ?_⟩ <;> first | trivial | exact rfl)), hp.C _ (x_Contains_con _ _ _ q5) ?_⟩ | refine hp.C _ (x_Contains_con _ _ _ q5) ?_)
    (cbv; repeat (refine hp.N ?_; cbv))
    replace h1 := cnd_inv h1
    rcases h1 with ⟨c6, h1⟩ | ⟨c6, h1⟩
    · subst c6
      (cbv; repeat (refine hp.N ?_; cbv))
      refine ⟨_, end_eq h1, [], ?_⟩
      (cbv; repeat (refine hp.N ?_; cbv))
      (repeat' (first | trivial | exact AB.sub_refl _ | exact AB.sub_any _ | exact rfl | exact AB.cells_eq (fun _ _ _ => rfl) | exact AB.sub_lst rfl (fun _ _ _ => rfl) | exact AB.sub_nil _ | (refine AB.sub_lst rfl ?_; intro i h0 h1; exact absurd (Int.lt_of_le_of_lt h0 h1) (by decide)) | (intro hq; exact absurd hq (by decide)) | exact AB.subLn | refine AB.subLc ?_ ?_ | refine AB.sub_agg ?_ | (refine AB.sub_lst' ?_; intro _ _ _) | exact (fun _ => AB.own_val _ _ (fun _ => rfl)) | (intro i h0 h1; exact absurd (Int.lt_of_le_of_lt h0 h1) (by decide)) | refine ⟨?_, ?_⟩))
    · subst c6
      (cbv; repeat (refine hp.N ?_; cbv))
      refine ⟨_, end_eq h1, [], ?_⟩
      (cbv; repeat (refine hp.N ?_; cbv))
      (repeat' (first | trivial | exact AB.sub_refl _ | exact AB.sub_any _ | exact rfl | exact AB.cells_eq (fun _ _ _ => rfl) | exact AB.sub_lst rfl (fun _ _ _ => rfl) | exact AB.sub_nil _ | (refine AB.sub_lst rfl ?_; intro i h0 h1; exact absurd (Int.lt_of_le_of_lt h0 h1) (by decide)) | (intro hq; exact absurd hq (by decide)) | exact AB.subLn | refine AB.subLc ?_ ?_ | refine AB.sub_agg ?_ | (refine AB.sub_lst' ?_; intro _ _ _) | exact (fun _ => AB.own_val _ _ (fun _ => rfl)) | (intro i h0 h1; exact absurd (Int.lt_of_le_of_lt h0 h1) (by decide)) | refine ⟨?_, ?_⟩))
  · rintro x10 ho
    subst ho
    replace h0 := g1
    clear h1 g1
    try dsimp only [cutO] at h0
    (cbv; repeat (refine hp.N ?_; cbv))
    replace h0 := cnd_inv h0
    rcases h0 with ⟨c7, h0⟩ | ⟨c7, h0⟩
    · subst c7
      (cbv; repeat (refine hp.N ?_; cbv))
      simp only [Option.some.injEq, Prod.mk.injEq] at h0
      obtain ⟨rfl, rfl⟩ := h0
      (repeat' (first | trivial | exact AB.sub_refl _ | exact AB.sub_any _ | exact rfl | exact AB.cells_eq (fun _ _ _ => rfl) | exact AB.sub_lst rfl (fun _ _ _ => rfl) | exact AB.sub_nil _ | (refine AB.sub_lst rfl ?_; intro i h0 h1; exact absurd (Int.lt_of_le_of_lt h0 h1) (by decide)) | (intro hq; exact absurd hq (by decide)) | exact AB.subLn | refine AB.subLc ?_ ?_ | refine AB.sub_agg ?_ | (refine AB.sub_lst' ?_; intro _ _ _) | exact (fun _ => AB.own_val _ _ (fun _ => rfl)) | (intro i h0 h1; exact absurd (Int.lt_of_le_of_lt h0 h1) (by decide)) | refine ⟨?_, ?_⟩))
    · subst c7
      (cbv; repeat (refine hp.N ?_; cbv))
      simp only [Option.some.injEq, Prod.mk.injEq] at h0
      obtain ⟨rfl, rfl⟩ := h0
      (repeat' (first | trivial | exact AB.sub_refl _ | exact AB.sub_any _ | exact rfl | exact AB.cells_eq (fun _ _ _ => rfl) | exact AB.sub_lst rfl (fun _ _ _ => rfl) | exact AB.sub_nil _ | (refine AB.sub_lst rfl ?_; intro i h0 h1; exact absurd (Int.lt_of_le_of_lt h0 h1) (by decide)) | (intro hq; exact absurd hq (by decide)) | exact AB.subLn | refine AB.subLc ?_ ?_ | refine AB.sub_agg ?_ | (refine AB.sub_lst' ?_; intro _ _ _) | exact (fun _ => AB.own_val _ _ (fun _ => rfl)) | (intro i h0 h1; exact absurd (Int.lt_of_le_of_lt h0 h1) (by decide)) | refine ⟨?_, ?_⟩))
end S
end
section
open Go AB
namespace S
open Go.Proofs
variable {G : GI} [Env G]
set_option maxRecDepth 1000000
set_option linter.unusedVariables false
set_option maxHeartbeats 4000000
/-- loop.example/g01248/impl.in -/
noncomputable def impl_in (a1 : Int) (a2 : Int) (a3 : Int) : Option Bool :=
  cut (
    cnd (std.le a2 a1) (
      some (.inl (std.le a1 a3))) (
      some (.inl false))) fun (x5 : Bool) =>
  some x5
theorem impl_in_con (a1 : Int) (a2 : Int) (a3 : Int) (r1 : Bool) (h0 : impl_in a1 a2 a3 = some r1) : Con P G 120 none [.val (.int .i64 a1), .val (.int .i64 a2), .val (.int .i64 a3)] (.val (.bool r1)) none := by
  refine con_by tok mo Tryd.func120 rfl rfl (by (first | (rintro _ ⟨rfl⟩; simp; done) | (simp; done) | (intro _ hq; cases hq))) (by (first | (rintro _ _ ⟨rfl⟩ ⟨rfl⟩; rfl) | (simp; done))) ?_
  (rintro ⟨⟨add, sub, mul, quo, rem, neg, bits, shl, shr, lt, le, eq, beq, bnot, band, conv, imin, imax, slen, sat, ssub, scat, seq, slt, ofB, nadd, nsub, selI, selS, selB, selF, isin, cut, fits, nz, makes, cats, shok⟩, C, D, W, S, N⟩ hp; replace hp := AB.isReal hp)
  unfold impl_in at h0
  ((try rw [← hp.L] at h0); (try dsimp only at h0))
  (cbv; repeat (refine hp.N ?_; cbv))
  replace h0 := cut_inv h0
  obtain ⟨o1, h1, g1⟩ := h0
  refine hp.S (Bool) (fun y => o1 = .inl y) (fun x5 σ => ⟨frS [(0, .any), (1, .any), (2, .any), (6, .val (.bool x5))] 7 0 σ.s, []⟩) ?_ ?_
  · (cbv; repeat (refine hp.N ?_; cbv))
    replace h1 := cnd_inv h1
    rcases h1 with ⟨c1, h1⟩ | ⟨c1, h1⟩
    · rw [c1]
      (cbv; repeat (refine hp.N ?_; cbv))
      refine ⟨_, end_eq h1, [], ?_⟩
      (cbv; repeat (refine hp.N ?_; cbv))
      (repeat' (first | trivial | exact AB.sub_refl _ | exact AB.sub_any _ | exact rfl | exact AB.cells_eq (fun _ _ _ => rfl) | exact AB.sub_lst rfl (fun _ _ _ => rfl) | exact AB.sub_nil _ | (refine AB.sub_lst rfl ?_; intro i h0 h1; exact absurd (Int.lt_of_le_of_lt h0 h1) (by decide)) | (intro hq; exact absurd hq (by decide)) | exact AB.subLn | refine AB.subLc ?_ ?_ | refine AB.sub_agg ?_ | (refine AB.sub_lst' ?_; intro _ _ _) | exact (fun _ => AB.own_val _ _ (fun _ => rfl)) | (intro i h0 h1; exact absurd (Int.lt_of_le_of_lt h0 h1) (by decide)) | refine ⟨?_, ?_⟩))
    · rw [c1]
      (cbv; repeat (refine hp.N ?_; cbv))
      refine ⟨_, end_eq h1, [], ?_⟩
      (cbv; repeat (refine hp.N ?_; cbv))
      (repeat' (first | trivial | exact AB.sub_refl _ | exact AB.sub_any _ | exact rfl | exact AB.cells_eq (fun _ _ _ => rfl) | exact AB.sub_lst rfl (fun _ _ _ => rfl) | exact AB.sub_nil _ | (refine AB.sub_lst rfl ?_; intro i h0 h1; exact absurd (Int.lt_of_le_of_lt h0 h1) (by decide)) | (intro hq; exact absurd hq (by decide)) | exact AB.subLn | refine AB.subLc ?_ ?_ | refine AB.sub_agg ?_ | (refine AB.sub_lst' ?_; intro _ _ _) | exact (fun _ => AB.own_val _ _ (fun _ => rfl)) | (intro i h0 h1; exact absurd (Int.lt_of_le_of_lt h0 h1) (by decide)) | refine ⟨?_, ?_⟩))
  · rintro x5 ho
    subst ho
    replace h0 := g1
    clear h1 g1
    try dsimp only [cutO] at h0
    (cbv; repeat (refine hp.N ?_; cbv))
    obtain rfl := Option.some.inj h0
    (repeat' (first | trivial | exact AB.sub_refl _ | exact AB.sub_any _ | exact rfl | exact AB.cells_eq (fun _ _ _ => rfl) | exact AB.sub_lst rfl (fun _ _ _ => rfl) | exact AB.sub_nil _ | (refine AB.sub_lst rfl ?_; intro i h0 h1; exact absurd (Int.lt_of_le_of_lt h0 h1) (by decide)) | (intro hq; exact absurd hq (by decide)) | exact AB.subLn | refine AB.subLc ?_ ?_ | refine AB.sub_agg ?_ | (refine AB.sub_lst' ?_; intro _ _ _) | exact (fun _ => AB.own_val _ _ (fun _ => rfl)) | (intro i h0 h1; exact absurd (Int.lt_of_le_of_lt h0 h1) (by decide)) | refine ⟨?_, ?_⟩))
end S
end
section
open Go AB
namespace S
open Go.Proofs
variable {G : GI} [Env G]
set_option maxRecDepth 1000000
set_option linter.unusedVariables false
set_option maxHeartbeats 4000000
/-- loop.example/g01248/impl.FormatInt -/
noncomputable def impl_FormatInt (a1 : Int) : Option (ByteArray × Bool) :=
  bnd (impl_in a1 (-999999) 999999) fun (x4 : Bool) =>
  cnd (std.bnot x4) (
    some (⟨#[]⟩, false)) (
    bnd (x_Itoa a1) fun (x5 : ByteArray) =>
    some (x5, true))
theorem impl_FormatInt_con (a1 : Int) (r1 : ByteArray) (r2 : Bool) (h0 : impl_FormatInt a1 = some (r1, r2)) : Con P G 33 none [.val (.int .i64 a1)] (.tup [.val (.string r1), .val (.bool r2)]) none := by
  refine con_by tok mo Tryd.func33 rfl rfl (by (first | (rintro _ ⟨rfl⟩; simp; done) | (simp; done) | (intro _ hq; cases hq))) (by (first | (rintro _ _ ⟨rfl⟩ ⟨rfl⟩; rfl) | (simp; done))) ?_
  (rintro ⟨⟨add, sub, mul, quo, rem, neg, bits, shl, shr, lt, le, eq, beq, bnot, band, conv, imin, imax, slen, sat, ssub, scat, seq, slt, ofB, nadd, nsub, selI, selS, selB, selF, isin, cut, fits, nz, makes, cats, shok⟩, C, D, W, S, N⟩ hp; replace hp := AB.isReal hp)
  unfold impl_FormatInt at h0
  ((try rw [← hp.L] at h0); (try dsimp only at h0))
  (cbv; repeat (refine hp.N ?_; cbv))
  replace h0 := bnd_inv h0
  obtain ⟨x4, q1, h0⟩ := h0
  (first | refine .inl (hp.C _ (impl_in_con _ _ _ _ q1) ?_) | refine .inl ⟨by (first | trivial | exact rfl | exact ⟨rfl, rfl⟩ | exact ⟨rfl, trivial⟩ | exact ⟨trivial, rfl⟩ | (refine ⟨?_, ?_⟩ <;> first | trivial | exact rfl)), hp.C _ (impl_in_con _ _ _ _ q1) ?_⟩ | refine hp.C _ (impl_in_con _ _ _ _ q1) ?_)
  (cbv; repeat (refine hp.N ?_; cbv))
  replace h0 := cnd_inv h0
  rcases h0 with ⟨c2, h0⟩ | ⟨c2, h0⟩
  · rw [c2]
    (cbv; repeat (refine hp.N ?_; cbv))
    simp only [Option.some.injEq, Prod.mk.injEq] at h0
    obtain ⟨rfl, rfl⟩ := h0
    (repeat' (first | trivial | exact AB.sub_refl _ | exact AB.sub_any _ | exact rfl | exact AB.cells_eq (fun _ _ _ => rfl) | exact AB.sub_lst rfl (fun _ _ _ => rfl) | exact AB.sub_nil _ | (refine AB.sub_lst rfl ?_; intro i h0 h1; exact absurd (Int.lt_of_le_of_lt h0 h1) (by decide)) | (intro hq; exact absurd hq (by decide)) | exact AB.subLn | refine AB.subLc ?_ ?_ | refine AB.sub_agg ?_ | (refine AB.sub_lst' ?_; intro _ _ _) | exact (fun _ => AB.own_val _ _ (fun _ => rfl)) | (intro i h0 h1; exact absurd (Int.lt_of_le_of_lt h0 h1) (by decide)) | refine ⟨?_, ?_⟩))
  · rw [c2]
    (cbv; repeat (refine hp.N ?_; cbv))
    replace h0 := bnd_inv h0
    obtain ⟨x5, q3, h0⟩ := h0
    (first | refine .inl (hp.C _ (x_Itoa_con _ _ q3) ?_) | refine .inl ⟨by (first | trivial | exact rfl | exact ⟨rfl, rfl⟩ | exact ⟨rfl, trivial⟩ | exact ⟨trivial, rfl⟩ | (refine ⟨?_, ?_⟩ <;> first | trivial | exact rfl)), hp.C _ (x_Itoa_con _ _ q3) ?_⟩ | refine hp.C _ (x_Itoa_con _ _ q3) ?_)
    (cbv; repeat (refine hp.N ?_; cbv))
    simp only [Option.some.injEq, Prod.mk.injEq] at h0
    obtain ⟨rfl, rfl⟩ := h0
    (repeat' (first | trivial | exact AB.sub_refl _ | exact AB.sub_any _ | exact rfl | exact AB.cells_eq (fun _ _ _ => rfl) | exact AB.sub_lst rfl (fun _ _ _ => rfl) | exact AB.sub_nil _ | (refine AB.sub_lst rfl ?_; intro i h0 h1; exact absurd (Int.lt_of_le_of_lt h0 h1) (by decide)) | (intro hq; exact absurd hq (by decide)) | exact AB.subLn | refine AB.subLc ?_ ?_ | refine AB.sub_agg ?_ | (refine AB.sub_lst' ?_; intro _ _ _) | exact (fun _ => AB.own_val _ _ (fun _ => rfl)) | (intro i h0 h1; exact absurd (Int.lt_of_le_of_lt h0 h1) (by decide)) | refine ⟨?_, ?_⟩))
end S
end
section
open Go AB
namespace S
open Go.Proofs
variable {G : GI} [Env G]
set_option maxRecDepth 1000000
set_option linter.unusedVariables false
set_option maxHeartbeats 4000000
/-- loop.example/g01248/impl.VerifyChecksum -/
noncomputable def impl_VerifyChecksum (K : Nat) (a1 : ByteArray) : Option (ByteArray × Bool) :=
  bnd (x_Cut a1 ⟨#[35]⟩) fun (⟨x8, x9, x10⟩ : ByteArray × ByteArray × Bool) =>
  bnd (impl_AppendChecksum K x8) fun (⟨x11, x12⟩ : ByteArray × Bool) =>
  cut (
    cnd (std.bnot x12) (
      some (.inl true)) (
      some (.inl (std.bnot (std.seq x11 a1))))) fun (x13 : Bool) =>
  cnd (x13) (
    some (⟨#[]⟩, false)) (
    some (x8, true))
theorem impl_VerifyChecksum_con (K : Nat) (a1 : ByteArray) (r1 : ByteArray) (r2 : Bool) (h0 : impl_VerifyChecksum K a1 = some (r1, r2)) : Con P G 41 none [.val (.string a1)] (.tup [.val (.string r1), .val (.bool r2)]) none := by
  refine con_by tok mo Tryd.func41 rfl rfl (by (first | (rintro _ ⟨rfl⟩; simp; done) | (simp; done) | (intro _ hq; cases hq))) (by (first | (rintro _ _ ⟨rfl⟩ ⟨rfl⟩; rfl) | (simp; done))) ?_
  (rintro ⟨⟨add, sub, mul, quo, rem, neg, bits, shl, shr, lt, le, eq, beq, bnot, band, conv, imin, imax, slen, sat, ssub, scat, seq, slt, ofB, nadd, nsub, selI, selS, selB, selF, isin, cut, fits, nz, makes, cats, shok⟩, C, D, W, S, N⟩ hp; replace hp := AB.isReal hp)
  unfold impl_VerifyChecksum at h0
  ((try rw [← hp.L] at h0); (try dsimp only at h0))
  (cbv; repeat (refine hp.N ?_; cbv))
  replace h0 := bnd_inv h0
  obtain ⟨⟨x8, x9, x10⟩, q1, h0⟩ := h0
  try dsimp only at h0
  (first | refine .inl (hp.C _ (x_Cut_con _ _ _ _ _ q1) ?_) | refine .inl ⟨by (first | trivial | exact rfl | exact ⟨rfl, rfl⟩ | exact ⟨rfl, trivial⟩ | exact ⟨trivial, rfl⟩ | (refine ⟨?_, ?_⟩ <;> first | trivial | exact rfl)), hp.C _ (x_Cut_con _ _ _ _ _ q1) ?_⟩ | refine hp.C _ (x_Cut_con _ _ _ _ _ q1) ?_)
  (cbv; repeat (refine hp.N ?_; cbv))
  replace h0 := bnd_inv h0
  obtain ⟨⟨x11, x12⟩, q2, h0⟩ := h0
  try dsimp only at h0
  (first | refine .inl (hp.C _ (impl_AppendChecksum_con K _ _ _ q2) ?_) | refine .inl ⟨by (first | trivial | exact rfl | exact ⟨rfl, rfl⟩ | exact ⟨rfl, trivial⟩ | exact ⟨trivial, rfl⟩ | (refine ⟨?_, ?_⟩ <;> first | trivial | exact rfl)), hp.C _ (impl_AppendChecksum_con K _ _ _ q2) ?_⟩ | refine hp.C _ (impl_AppendChecksum_con K _ _ _ q2) ?_)
  (cbv; repeat (refine hp.N ?_; cbv))
  replace h0 := cut_inv h0
  obtain ⟨o1, h1, g1⟩ := h0
  refine hp.S (Bool) (fun y => o1 = .inl y) (fun x13 σ => ⟨frS [(0, .any), (2, .any), (3, .any), (5, .any), (6, .any), (7, .any), (8, .any), (9, .any), (10, .any), (11, .any), (12, .any), (13, .any), (14, .any), (15, .any), (16, .any), (17, .any), (18, .any), (19, .any), (26, .val (.bool x13))] 27 0 σ.s, []⟩) ?_ ?_
  · (cbv; repeat (refine hp.N ?_; cbv))
    replace h1 := cnd_inv h1
    rcases h1 with ⟨c3, h1⟩ | ⟨c3, h1⟩
    · rw [c3]
      (cbv; repeat (refine hp.N ?_; cbv))
      refine ⟨_, end_eq h1, [], ?_⟩
      (cbv; repeat (refine hp.N ?_; cbv))
      (repeat' (first | trivial | exact AB.sub_refl _ | exact AB.sub_any _ | exact rfl | exact AB.cells_eq (fun _ _ _ => rfl) | exact AB.sub_lst rfl (fun _ _ _ => rfl) | exact AB.sub_nil _ | (refine AB.sub_lst rfl ?_; intro i h0 h1; exact absurd (Int.lt_of_le_of_lt h0 h1) (by decide)) | (intro hq; exact absurd hq (by decide)) | exact AB.subLn | refine AB.subLc ?_ ?_ | refine AB.sub_agg ?_ | (refine AB.sub_lst' ?_; intro _ _ _) | exact (fun _ => AB.own_val _ _ (fun _ => rfl)) | (intro i h0 h1; exact absurd (Int.lt_of_le_of_lt h0 h1) (by decide)) | refine ⟨?_, ?_⟩))
    · rw [c3]
      (cbv; repeat (refine hp.N ?_; cbv))
      refine ⟨_, end_eq h1, [], ?_⟩
      (cbv; repeat (refine hp.N ?_; cbv))
      (repeat' (first | trivial | exact AB.sub_refl _ | exact AB.sub_any _ | exact rfl | exact AB.cells_eq (fun _ _ _ => rfl) | exact AB.sub_lst rfl (fun _ _ _ => rfl) | exact AB.sub_nil _ | (refine AB.sub_lst rfl ?_; intro i h0 h1; exact absurd (Int.lt_of_le_of_lt h0 h1) (by decide)) | (intro hq; exact absurd hq (by decide)) | exact AB.subLn | refine AB.subLc ?_ ?_ | refine AB.sub_agg ?_ | (refine AB.sub_lst' ?_; intro _ _ _) | exact (fun _ => AB.own_val _ _ (fun _ => rfl)) | (intro i h0 h1; exact absurd (Int.lt_of_le_of_lt h0 h1) (by decide)) | refine ⟨?_, ?_⟩))
  · rintro x13 ho
    subst ho
    replace h0 := g1
    clear h1 g1
    try dsimp only [cutO] at h0
    (cbv; repeat (refine hp.N ?_; cbv))
    replace h0 := cnd_inv h0
    rcases h0 with ⟨c4, h0⟩ | ⟨c4, h0⟩
    · subst c4
      (cbv; repeat (refine hp.N ?_; cbv))
      simp only [Option.some.injEq, Prod.mk.injEq] at h0
      obtain ⟨rfl, rfl⟩ := h0
      (repeat' (first | trivial | exact AB.sub_refl _ | exact AB.sub_any _ | exact rfl | exact AB.cells_eq (fun _ _ _ => rfl) | exact AB.sub_lst rfl (fun _ _ _ => rfl) | exact AB.sub_nil _ | (refine AB.sub_lst rfl ?_; intro i h0 h1; exact absurd (Int.lt_of_le_of_lt h0 h1) (by decide)) | (intro hq; exact absurd hq (by decide)) | exact AB.subLn | refine AB.subLc ?_ ?_ | refine AB.sub_agg ?_ | (refine AB.sub_lst' ?_; intro _ _ _) | exact (fun _ => AB.own_val _ _ (fun _ => rfl)) | (intro i h0 h1; exact absurd (Int.lt_of_le_of_lt h0 h1) (by decide)) | refine ⟨?_, ?_⟩))
    · subst c4
      (cbv; repeat (refine hp.N ?_; cbv))
      simp only [Option.some.injEq, Prod.mk.injEq] at h0
      obtain ⟨rfl, rfl⟩ := h0
      (repeat' (first | trivial | exact AB.sub_refl _ | exact AB.sub_any _ | exact rfl | exact AB.cells_eq (fun _ _ _ => rfl) | exact AB.sub_lst rfl (fun _ _ _ => rfl) | exact AB.sub_nil _ | (refine AB.sub_lst rfl ?_; intro i h0 h1; exact absurd (Int.lt_of_le_of_lt h0 h1) (by decide)) | (intro hq; exact absurd hq (by decide)) | exact AB.subLn | refine AB.subLc ?_ ?_ | refine AB.sub_agg ?_ | (refine AB.sub_lst' ?_; intro _ _ _) | exact (fun _ => AB.own_val _ _ (fun _ => rfl)) | (intro i h0 h1; exact absurd (Int.lt_of_le_of_lt h0 h1) (by decide)) | refine ⟨?_, ?_⟩))
end S
end
section
open Go AB
namespace S
open Go.Proofs
variable {G : GI} [Env G]
set_option maxRecDepth 1000000
set_option linter.unusedVariables false
set_option maxHeartbeats 4000000
/-- loop.example/g01248/laws.vAt -/
noncomputable def laws_vAt (a1 : Int) (a2 : Int → Int) (a3 : Int) : Option Int :=
  cnd (std.lt a3 a1) (
    grd (std.isin a3 a1) <|
    some (std.conv .i64 (a2 a3))) (
    grd (std.nz 256) <|
    some (std.rem .i64 (std.add .i64 (std.mul .i64 a3 7) a1) 256))
theorem laws_vAt_con (a1 : Int) (a2 : Int → Int) (a3 : Int) (r1 : Int) (h0 : laws_vAt a1 a2 a3 = some r1) : Con P G 42 none [.lst a1 (fun k0 => [.val (.int .u8 (a2 k0))]), .val (.int .i64 a3)] (.val (.int .i64 r1)) none := by
  refine con_by tok mo Tryd.func42 rfl rfl (by (first | (rintro _ ⟨rfl⟩; simp; done) | (simp; done) | (intro _ hq; cases hq))) (by (first | (rintro _ _ ⟨rfl⟩ ⟨rfl⟩; rfl) | (simp; done))) ?_
  (rintro ⟨⟨add, sub, mul, quo, rem, neg, bits, shl, shr, lt, le, eq, beq, bnot, band, conv, imin, imax, slen, sat, ssub, scat, seq, slt, ofB, nadd, nsub, selI, selS, selB, selF, isin, cut, fits, nz, makes, cats, shok⟩, C, D, W, S, N⟩ hp; replace hp := AB.isReal hp)
  unfold laws_vAt at h0
  ((try rw [← hp.L] at h0); (try dsimp only at h0))
  (cbv; repeat (refine hp.N ?_; cbv))
  replace h0 := cnd_inv h0
  rcases h0 with ⟨c1, h0⟩ | ⟨c1, h0⟩
  · rw [c1]
    (cbv; repeat (refine hp.N ?_; cbv))
    replace h0 := grd_inv h0
    obtain ⟨p2, h0⟩ := h0
    refine ⟨by (first | exact p2 | exact ⟨rfl, p2⟩ | exact ⟨p2, trivial⟩ | exact ⟨rfl, p2, trivial⟩ | exact ⟨p2, fun _ _ => rfl⟩ | exact ⟨rfl, fun _ _ => rfl, p2⟩ | exact ⟨fun _ _ => rfl, p2⟩ | exact ⟨rfl, rfl, p2⟩ | trivial | exact rfl | exact ⟨rfl, trivial⟩ | exact ⟨rfl, rfl⟩), ?_⟩
    (repeat (refine hp.N ?_; cbv))
    obtain rfl := Option.some.inj h0
    (repeat' (first | trivial | exact AB.sub_refl _ | exact AB.sub_any _ | exact rfl | exact AB.cells_eq (fun _ _ _ => rfl) | exact AB.sub_lst rfl (fun _ _ _ => rfl) | exact AB.sub_nil _ | (refine AB.sub_lst rfl ?_; intro i h0 h1; exact absurd (Int.lt_of_le_of_lt h0 h1) (by decide)) | (intro hq; exact absurd hq (by decide)) | exact AB.subLn | refine AB.subLc ?_ ?_ | refine AB.sub_agg ?_ | (refine AB.sub_lst' ?_; intro _ _ _) | exact (fun _ => AB.own_val _ _ (fun _ => rfl)) | (intro i h0 h1; exact absurd (Int.lt_of_le_of_lt h0 h1) (by decide)) | refine ⟨?_, ?_⟩))
  · rw [c1]
    (cbv; repeat (refine hp.N ?_; cbv))
    replace h0 := grd_inv h0
    obtain ⟨p3, h0⟩ := h0
    refine ⟨by (first | exact p3 | exact ⟨rfl, p3⟩ | exact ⟨p3, trivial⟩ | exact ⟨rfl, p3, trivial⟩ | exact ⟨p3, fun _ _ => rfl⟩ | exact ⟨rfl, fun _ _ => rfl, p3⟩ | exact ⟨fun _ _ => rfl, p3⟩ | exact ⟨rfl, rfl, p3⟩ | trivial | exact rfl | exact ⟨rfl, trivial⟩ | exact ⟨rfl, rfl⟩), ?_⟩
    (repeat (refine hp.N ?_; cbv))
    obtain rfl := Option.some.inj h0
    (repeat' (first | trivial | exact AB.sub_refl _ | exact AB.sub_any _ | exact rfl | exact AB.cells_eq (fun _ _ _ => rfl) | exact AB.sub_lst rfl (fun _ _ _ => rfl) | exact AB.sub_nil _ | (refine AB.sub_lst rfl ?_; intro i h0 h1; exact absurd (Int.lt_of_le_of_lt h0 h1) (by decide)) | (intro hq; exact absurd hq (by decide)) | exact AB.subLn | refine AB.subLc ?_ ?_ | refine AB.sub_agg ?_ | (refine AB.sub_lst' ?_; intro _ _ _) | exact (fun _ => AB.own_val _ _ (fun _ => rfl)) | (intro i h0 h1; exact absurd (Int.lt_of_le_of_lt h0 h1) (by decide)) | refine ⟨?_, ?_⟩))
end S
end
section
open Go AB
namespace S
open Go.Proofs
variable {G : GI} [Env G]
set_option maxRecDepth 1000000
set_option linter.unusedVariables false
set_option maxHeartbeats 4000000
/-- loop.example/g01248/laws.vBig -/
noncomputable def laws_vBig (a1 : Int) (a2 : Int → Int) : Option Bool :=
  some (std.lt 65536 a1)
theorem laws_vBig_con (a1 : Int) (a2 : Int → Int) (r1 : Bool) (h0 : laws_vBig a1 a2 = some r1) : Con P G 8 none [.lst a1 (fun k0 => [.val (.int .u8 (a2 k0))])] (.val (.bool r1)) none := by
  refine con_by tok mo Tryd.func8 rfl rfl (by (first | (rintro _ ⟨rfl⟩; simp; done) | (simp; done) | (intro _ hq; cases hq))) (by (first | (rintro _ _ ⟨rfl⟩ ⟨rfl⟩; rfl) | (simp; done))) ?_
  (rintro ⟨⟨add, sub, mul, quo, rem, neg, bits, shl, shr, lt, le, eq, beq, bnot, band, conv, imin, imax, slen, sat, ssub, scat, seq, slt, ofB, nadd, nsub, selI, selS, selB, selF, isin, cut, fits, nz, makes, cats, shok⟩, C, D, W, S, N⟩ hp; replace hp := AB.isReal hp)
  unfold laws_vBig at h0
  ((try rw [← hp.L] at h0); (try dsimp only at h0))
  (cbv; repeat (refine hp.N ?_; cbv))
  obtain rfl := Option.some.inj h0
  (repeat' (first | trivial | exact AB.sub_refl _ | exact AB.sub_any _ | exact rfl | exact AB.cells_eq (fun _ _ _ => rfl) | exact AB.sub_lst rfl (fun _ _ _ => rfl) | exact AB.sub_nil _ | (refine AB.sub_lst rfl ?_; intro i h0 h1; exact absurd (Int.lt_of_le_of_lt h0 h1) (by decide)) | (intro hq; exact absurd hq (by decide)) | exact AB.subLn | refine AB.subLc ?_ ?_ | refine AB.sub_agg ?_ | (refine AB.sub_lst' ?_; intro _ _ _) | exact (fun _ => AB.own_val _ _ (fun _ => rfl)) | (intro i h0 h1; exact absurd (Int.lt_of_le_of_lt h0 h1) (by decide)) | refine ⟨?_, ?_⟩))
end S
end
section
open Go AB
namespace S
open Go.Proofs
variable {G : GI} [Env G]
set_option maxRecDepth 1000000
set_option linter.unusedVariables false
set_option maxHeartbeats 4000000
/-- loop.example/g01248/spec.l1Num -/
noncomputable def spec_l1Num (K : Nat) : Nat → Int → Option ByteArray
  | 0, _ => none
  | N + 1, a1 =>
  cnd (std.lt a1 0) (
    cnd (std.lt (-10) a1) (
      bnd (spec_l1Num K N (std.neg .i64 a1)) fun (x6 : ByteArray) =>
      grd (std.cats ⟨#[45]⟩ x6) <|
      some (std.scat ⟨#[45]⟩ x6)) (
      grd (std.nz 10) <|
      bnd (spec_l1Num K N (std.quo .i64 a1 10)) fun (x7 : ByteArray) =>
      grd (std.nz 10) <|
      bnd (spec_l1Num K N (std.neg .i64 (std.rem .i64 a1 10))) fun (x8 : ByteArray) =>
      grd (std.cats x7 x8) <|
      some (std.scat x7 x8))) (
    cnd (std.lt a1 10) (
      grd (std.cut a1 (std.add .i64 a1 1) (std.slen ⟨#[48, 49, 50, 51, 52, 53, 54, 55, 56, 57]⟩)) <|
      some (std.ssub ⟨#[48, 49, 50, 51, 52, 53, 54, 55, 56, 57]⟩ a1 (std.add .i64 a1 1))) (
      grd (std.nz 10) <|
      bnd (spec_l1Num K N (std.quo .i64 a1 10)) fun (x9 : ByteArray) =>
      grd (std.nz 10) <|
      grd (std.nz 10) <|
      grd (std.cut (std.rem .i64 a1 10) (std.add .i64 (std.rem .i64 a1 10) 1) (std.slen ⟨#[48, 49, 50, 51, 52, 53, 54, 55, 56, 57]⟩)) <|
      grd (std.cats x9 (std.ssub ⟨#[48, 49, 50, 51, 52, 53, 54, 55, 56, 57]⟩ (std.rem .i64 a1 10) (std.add .i64 (std.rem .i64 a1 10) 1))) <|
      some (std.scat x9 (std.ssub ⟨#[48, 49, 50, 51, 52, 53, 54, 55, 56, 57]⟩ (std.rem .i64 a1 10) (std.add .i64 (std.rem .i64 a1 10) 1)))))
theorem spec_l1Num_con (K : Nat) : ∀ (N : Nat) (a1 : Int) (r1 : ByteArray) (h0 : spec_l1Num K N a1 = some r1), Con P G 127 none [.val (.int .i64 a1)] (.val (.string r1)) none
  | 0, _, _, h0 => by cases h0
  | N + 1, a1, r1, h0 => by
    have IH := spec_l1Num_con K N
    refine con_by tok mo Tryd.func127 rfl rfl (by (first | (rintro _ ⟨rfl⟩; simp; done) | (simp; done) | (intro _ hq; cases hq))) (by (first | (rintro _ _ ⟨rfl⟩ ⟨rfl⟩; rfl) | (simp; done))) ?_
    (rintro ⟨⟨add, sub, mul, quo, rem, neg, bits, shl, shr, lt, le, eq, beq, bnot, band, conv, imin, imax, slen, sat, ssub, scat, seq, slt, ofB, nadd, nsub, selI, selS, selB, selF, isin, cut, fits, nz, makes, cats, shok⟩, C, D, W, S, N⟩ hp; replace hp := AB.isReal hp)
    unfold spec_l1Num at h0
    ((try rw [← hp.L] at h0); (try dsimp only at h0))
    (cbv; repeat (refine hp.N ?_; cbv))
    replace h0 := cnd_inv h0
    rcases h0 with ⟨c1, h0⟩ | ⟨c1, h0⟩
    · rw [c1]
      (cbv; repeat (refine hp.N ?_; cbv))
      replace h0 := cnd_inv h0
      rcases h0 with ⟨c2, h0⟩ | ⟨c2, h0⟩
      · rw [c2]
        (cbv; repeat (refine hp.N ?_; cbv))
        replace h0 := bnd_inv h0
        obtain ⟨x6, q3, h0⟩ := h0
        (first | refine .inl (hp.C _ (IH _ _ q3) ?_) | refine .inl ⟨by (first | trivial | exact rfl | exact ⟨rfl, rfl⟩ | exact ⟨rfl, trivial⟩ | exact ⟨trivial, rfl⟩ | (refine ⟨?_, ?_⟩ <;> first | trivial | exact rfl)), hp.C _ (IH _ _ q3) ?_⟩ | refine hp.C _ (IH _ _ q3) ?_)
        (cbv; repeat (refine hp.N ?_; cbv))
        replace h0 := grd_inv h0
        obtain ⟨p4, h0⟩ := h0
        refine ⟨by (first | exact p4 | exact ⟨rfl, p4⟩ | exact ⟨p4, trivial⟩ | exact ⟨rfl, p4, trivial⟩ | exact ⟨p4, fun _ _ => rfl⟩ | exact ⟨rfl, fun _ _ => rfl, p4⟩ | exact ⟨fun _ _ => rfl, p4⟩ | exact ⟨rfl, rfl, p4⟩ | trivial | exact rfl | exact ⟨rfl, trivial⟩ | exact ⟨rfl, rfl⟩), ?_⟩
        (repeat (refine hp.N ?_; cbv))
        obtain rfl := Option.some.inj h0
        (repeat' (first | trivial | exact AB.sub_refl _ | exact AB.sub_any _ | exact rfl | exact AB.cells_eq (fun _ _ _ => rfl) | exact AB.sub_lst rfl (fun _ _ _ => rfl) | exact AB.sub_nil _ | (refine AB.sub_lst rfl ?_; intro i h0 h1; exact absurd (Int.lt_of_le_of_lt h0 h1) (by decide)) | (intro hq; exact absurd hq (by decide)) | exact AB.subLn | refine AB.subLc ?_ ?_ | refine AB.sub_agg ?_ | (refine AB.sub_lst' ?_; intro _ _ _) | exact (fun _ => AB.own_val _ _ (fun _ => rfl)) | (intro i h0 h1; exact absurd (Int.lt_of_le_of_lt h0 h1) (by decide)) | refine ⟨?_, ?_⟩))
      · rw [c2]
        (cbv; repeat (refine hp.N ?_; cbv))
        replace h0 := grd_inv h0
        obtain ⟨p5, h0⟩ := h0
        refine ⟨by (first | exact p5 | exact ⟨rfl, p5⟩ | exact ⟨p5, trivial⟩ | exact ⟨rfl, p5, trivial⟩ | exact ⟨p5, fun _ _ => rfl⟩ | exact ⟨rfl, fun _ _ => rfl, p5⟩ | exact ⟨fun _ _ => rfl, p5⟩ | exact ⟨rfl, rfl, p5⟩ | trivial | exact rfl | exact ⟨rfl, trivial⟩ | exact ⟨rfl, rfl⟩), ?_⟩
        (repeat (refine hp.N ?_; cbv))
        replace h0 := bnd_inv h0
        obtain ⟨x7, q6, h0⟩ := h0
        (first | refine .inl (hp.C _ (IH _ _ q6) ?_) | refine .inl ⟨by (first | trivial | exact rfl | exact ⟨rfl, rfl⟩ | exact ⟨rfl, trivial⟩ | exact ⟨trivial, rfl⟩ | (refine ⟨?_, ?_⟩ <;> first | trivial | exact rfl)), hp.C _ (IH _ _ q6) ?_⟩ | refine hp.C _ (IH _ _ q6) ?_)
        (cbv; repeat (refine hp.N ?_; cbv))
        replace h0 := grd_inv h0
        obtain ⟨p7, h0⟩ := h0
        refine ⟨by (first | exact p7 | exact ⟨rfl, p7⟩ | exact ⟨p7, trivial⟩ | exact ⟨rfl, p7, trivial⟩ | exact ⟨p7, fun _ _ => rfl⟩ | exact ⟨rfl, fun _ _ => rfl, p7⟩ | exact ⟨fun _ _ => rfl, p7⟩ | exact ⟨rfl, rfl, p7⟩ | trivial | exact rfl | exact ⟨rfl, trivial⟩ | exact ⟨rfl, rfl⟩), ?_⟩
        (repeat (refine hp.N ?_; cbv))
        replace h0 := bnd_inv h0
        obtain ⟨x8, q8, h0⟩ := h0
        (first | refine .inl (hp.C _ (IH _ _ q8) ?_) | refine .inl ⟨by (first | trivial | exact rfl | exact ⟨rfl, rfl⟩ | exact ⟨rfl, trivial⟩ | exact ⟨trivial, rfl⟩ | (refine ⟨?_, ?_⟩ <;> first | trivial | exact rfl)), hp.C _ (IH _ _ q8) ?_⟩ | refine hp.C _ (IH _ _ q8) ?_)
        (cbv; repeat (refine hp.N ?_; cbv))
        replace h0 := grd_inv h0
        obtain ⟨p9, h0⟩ := h0
        refine ⟨by (first | exact p9 | exact ⟨rfl, p9⟩ | exact ⟨p9, trivial⟩ | exact ⟨rfl, p9, trivial⟩ | exact ⟨p9, fun _ _ => rfl⟩ | exact ⟨rfl, fun _ _ => rfl, p9⟩ | exact ⟨fun _ _ => rfl, p9⟩ | exact ⟨rfl, rfl, p9⟩ | trivial | exact rfl | exact ⟨rfl, trivial⟩ | exact ⟨rfl, rfl⟩), ?_⟩
        (repeat (refine hp.N ?_; cbv))
        obtain rfl := Option.some.inj h0
        (repeat' (first | trivial | exact AB.sub_refl _ | exact AB.sub_any _ | exact rfl | exact AB.cells_eq (fun _ _ _ => rfl) | exact AB.sub_lst rfl (fun _ _ _ => rfl) | exact AB.sub_nil _ | (refine AB.sub_lst rfl ?_; intro i h0 h1; exact absurd (Int.lt_of_le_of_lt h0 h1) (by decide)) | (intro hq; exact absurd hq (by decide)) | exact AB.subLn | refine AB.subLc ?_ ?_ | refine AB.sub_agg ?_ | (refine AB.sub_lst' ?_; intro _ _ _) | exact (fun _ => AB.own_val _ _ (fun _ => rfl)) | (intro i h0 h1; exact absurd (Int.lt_of_le_of_lt h0 h1) (by decide)) | refine ⟨?_, ?_⟩))
    · rw [c1]
      (cbv; repeat (refine hp.N ?_; cbv))
      replace h0 := cnd_inv h0
      rcases h0 with ⟨c10, h0⟩ | ⟨c10, h0⟩
      · rw [c10]
        (cbv; repeat (refine hp.N ?_; cbv))
        replace h0 := grd_inv h0
        obtain ⟨p11, h0⟩ := h0
        refine ⟨by (first | exact p11 | exact ⟨rfl, p11⟩ | exact ⟨p11, trivial⟩ | exact ⟨rfl, p11, trivial⟩ | exact ⟨p11, fun _ _ => rfl⟩ | exact ⟨rfl, fun _ _ => rfl, p11⟩ | exact ⟨fun _ _ => rfl, p11⟩ | exact ⟨rfl, rfl, p11⟩ | trivial | exact rfl | exact ⟨rfl, trivial⟩ | exact ⟨rfl, rfl⟩), ?_⟩
        (repeat (refine hp.N ?_; cbv))
        obtain rfl := Option.some.inj h0
        (repeat' (first | trivial | exact AB.sub_refl _ | exact AB.sub_any _ | exact rfl | exact AB.cells_eq (fun _ _ _ => rfl) | exact AB.sub_lst rfl (fun _ _ _ => rfl) | exact AB.sub_nil _ | (refine AB.sub_lst rfl ?_; intro i h0 h1; exact absurd (Int.lt_of_le_of_lt h0 h1) (by decide)) | (intro hq; exact absurd hq (by decide)) | exact AB.subLn | refine AB.subLc ?_ ?_ | refine AB.sub_agg ?_ | (refine AB.sub_lst' ?_; intro _ _ _) | exact (fun _ => AB.own_val _ _ (fun _ => rfl)) | (intro i h0 h1; exact absurd (Int.lt_of_le_of_lt h0 h1) (by decide)) | refine ⟨?_, ?_⟩))
      · rw [c10]
        (cbv; repeat (refine hp.N ?_; cbv))
        replace h0 := grd_inv h0
        obtain ⟨p12, h0⟩ := h0
        refine ⟨by (first | exact p12 | exact ⟨rfl, p12⟩ | exact ⟨p12, trivial⟩ | exact ⟨rfl, p12, trivial⟩ | exact ⟨p12, fun _ _ => rfl⟩ | exact ⟨rfl, fun _ _ => rfl, p12⟩ | exact ⟨fun _ _ => rfl, p12⟩ | exact ⟨rfl, rfl, p12⟩ | trivial | exact rfl | exact ⟨rfl, trivial⟩ | exact ⟨rfl, rfl⟩), ?_⟩
        (repeat (refine hp.N ?_; cbv))
        replace h0 := bnd_inv h0
        obtain ⟨x9, q13, h0⟩ := h0
        (first | refine .inl (hp.C _ (IH _ _ q13) ?_) | refine .inl ⟨by (first | trivial | exact rfl | exact ⟨rfl, rfl⟩ | exact ⟨rfl, trivial⟩ | exact ⟨trivial, rfl⟩ | (refine ⟨?_, ?_⟩ <;> first | trivial | exact rfl)), hp.C _ (IH _ _ q13) ?_⟩ | refine hp.C _ (IH _ _ q13) ?_)
        (cbv; repeat (refine hp.N ?_; cbv))
        replace h0 := grd_inv h0
        obtain ⟨p14, h0⟩ := h0
        refine ⟨by (first | exact p14 | exact ⟨rfl, p14⟩ | exact ⟨p14, trivial⟩ | exact ⟨rfl, p14, trivial⟩ | exact ⟨p14, fun _ _ => rfl⟩ | exact ⟨rfl, fun _ _ => rfl, p14⟩ | exact ⟨fun _ _ => rfl, p14⟩ | exact ⟨rfl, rfl, p14⟩ | trivial | exact rfl | exact ⟨rfl, trivial⟩ | exact ⟨rfl, rfl⟩), ?_⟩
        (repeat (refine hp.N ?_; cbv))
        replace h0 := grd_inv h0
        obtain ⟨p15, h0⟩ := h0
        refine ⟨by (first | exact p15 | exact ⟨rfl, p15⟩ | exact ⟨p15, trivial⟩ | exact ⟨rfl, p15, trivial⟩ | exact ⟨p15, fun _ _ => rfl⟩ | exact ⟨rfl, fun _ _ => rfl, p15⟩ | exact ⟨fun _ _ => rfl, p15⟩ | exact ⟨rfl, rfl, p15⟩ | trivial | exact rfl | exact ⟨rfl, trivial⟩ | exact ⟨rfl, rfl⟩), ?_⟩
        (repeat (refine hp.N ?_; cbv))
        replace h0 := grd_inv h0
        obtain ⟨p16, h0⟩ := h0
        refine ⟨by (first | exact p16 | exact ⟨rfl, p16⟩ | exact ⟨p16, trivial⟩ | exact ⟨rfl, p16, trivial⟩ | exact ⟨p16, fun _ _ => rfl⟩ | exact ⟨rfl, fun _ _ => rfl, p16⟩ | exact ⟨fun _ _ => rfl, p16⟩ | exact ⟨rfl, rfl, p16⟩ | trivial | exact rfl | exact ⟨rfl, trivial⟩ | exact ⟨rfl, rfl⟩), ?_⟩
        (repeat (refine hp.N ?_; cbv))
        replace h0 := grd_inv h0
        obtain ⟨p17, h0⟩ := h0
        refine ⟨by (first | exact p17 | exact ⟨rfl, p17⟩ | exact ⟨p17, trivial⟩ | exact ⟨rfl, p17, trivial⟩ | exact ⟨p17, fun _ _ => rfl⟩ | exact ⟨rfl, fun _ _ => rfl, p17⟩ | exact ⟨fun _ _ => rfl, p17⟩ | exact ⟨rfl, rfl, p17⟩ | trivial | exact rfl | exact ⟨rfl, trivial⟩ | exact ⟨rfl, rfl⟩), ?_⟩
        (repeat (refine hp.N ?_; cbv))
        obtain rfl := Option.some.inj h0
        (repeat' (first | trivial | exact AB.sub_refl _ | exact AB.sub_any _ | exact rfl | exact AB.cells_eq (fun _ _ _ => rfl) | exact AB.sub_lst rfl (fun _ _ _ => rfl) | exact AB.sub_nil _ | (refine AB.sub_lst rfl ?_; intro i h0 h1; exact absurd (Int.lt_of_le_of_lt h0 h1) (by decide)) | (intro hq; exact absurd hq (by decide)) | exact AB.subLn | refine AB.subLc ?_ ?_ | refine AB.sub_agg ?_ | (refine AB.sub_lst' ?_; intro _ _ _) | exact (fun _ => AB.own_val _ _ (fun _ => rfl)) | (intro i h0 h1; exact absurd (Int.lt_of_le_of_lt h0 h1) (by decide)) | refine ⟨?_, ?_⟩))
end S
end
section
open Go AB
namespace S
open Go.Proofs
variable {G : GI} [Env G]
set_option maxRecDepth 1000000
set_option linter.unusedVariables false
set_option maxHeartbeats 4000000
/-- loop.example/g01248/spec.l1Sum -/
noncomputable def spec_l1Sum_s2 (a1 : ByteArray) : (Int × Int) → Option ((Int × Int) ⊕ ((Int) ⊕ (Int)))
  | (x18, x19) =>
  cnd (std.lt x19 (std.slen a1)) (
    grd (std.isin x19 (std.slen a1)) <|
    grd (std.nz 999979) <|
    some (.inl (std.rem .i64 (std.add .i64 (std.add .i64 (std.mul .i64 41 x18) (std.conv .i64 (std.sat a1 x19))) 1) 999979, std.add .i64 x19 1))) (
    out (
      some (.inl x18)))
noncomputable def spec_l1Sum (K : Nat) (a1 : ByteArray) : Option Int :=
  cut (
    loopF (spec_l1Sum_s2 a1) K ((7, 0) : Int × Int)) fun (x15 : Int) =>
  some x15
theorem spec_l1Sum_con (K : Nat) (a1 : ByteArray) (r1 : Int) (h0 : spec_l1Sum K a1 = some r1) : Con P G 197 none [.val (.string a1)] (.val (.int .i64 r1)) none := by
  refine con_by tok mo Tryd.func197 rfl rfl (by (first | (rintro _ ⟨rfl⟩; simp; done) | (simp; done) | (intro _ hq; cases hq))) (by (first | (rintro _ _ ⟨rfl⟩ ⟨rfl⟩; rfl) | (simp; done))) ?_
  (rintro ⟨⟨add, sub, mul, quo, rem, neg, bits, shl, shr, lt, le, eq, beq, bnot, band, conv, imin, imax, slen, sat, ssub, scat, seq, slt, ofB, nadd, nsub, selI, selS, selB, selF, isin, cut, fits, nz, makes, cats, shok⟩, C, D, W, S, N⟩ hp; replace hp := AB.isReal hp)
  unfold spec_l1Sum at h0
  ((try rw [← hp.L] at h0); (try dsimp only at h0))
  (cbv; repeat (refine hp.N ?_; cbv))
  replace h0 := cut_inv h0
  obtain ⟨o1, h1, g1⟩ := h0
  refine hp.S (Int) (fun y => o1 = .inl y) (fun x15 σ => ⟨frS [(0, .any), (2, .any), (3, .val (.int .i64 x15))] 4 0 σ.s, []⟩) ?_ ?_
  · (cbv; repeat (refine hp.N ?_; cbv))
    refine hp.W (Int × Int) (fun x k => loopF (spec_l1Sum_s2 a1) k x = some o1) (fun ⟨x18, x19⟩ σ => ⟨frS [(2, .any), (3, .val (.int .i64 x18)), (4, .val (.int .i64 x19))] 5 0 σ.s, []⟩) ⟨((7, 0) : Int × Int), K, h1, [], ?_⟩ ?_
    · (cbv; repeat (refine hp.N ?_; cbv))
      (repeat' (first | trivial | exact AB.sub_refl _ | exact AB.sub_any _ | exact rfl | exact AB.cells_eq (fun _ _ _ => rfl) | exact AB.sub_lst rfl (fun _ _ _ => rfl) | exact AB.sub_nil _ | (refine AB.sub_lst rfl ?_; intro i h0 h1; exact absurd (Int.lt_of_le_of_lt h0 h1) (by decide)) | (intro hq; exact absurd hq (by decide)) | exact AB.subLn | refine AB.subLc ?_ ?_ | refine AB.sub_agg ?_ | (refine AB.sub_lst' ?_; intro _ _ _) | exact (fun _ => AB.own_val _ _ (fun _ => rfl)) | (intro i h0 h1; exact absurd (Int.lt_of_le_of_lt h0 h1) (by decide)) | refine ⟨?_, ?_⟩))
    · rintro ⟨x18, x19⟩ k2 hI
      replace hI := loopF_inv hI
      obtain ⟨m2, o2, l2, h2, g2⟩ := hI
      unfold spec_l1Sum_s2 at h2
      try dsimp only at h2
      ((try rw [← hp.L] at h2); (try dsimp only at h2))
      (cbv; repeat (refine hp.N ?_; cbv))
      replace h2 := cnd_inv h2
      rcases h2 with ⟨c1, h2⟩ | ⟨c1, h2⟩
      · rw [c1]
        (cbv; repeat (refine hp.N ?_; cbv))
        replace h2 := grd_inv h2
        obtain ⟨p2, h2⟩ := h2
        refine ⟨by (first | exact p2 | exact ⟨rfl, p2⟩ | exact ⟨p2, trivial⟩ | exact ⟨rfl, p2, trivial⟩ | exact ⟨p2, fun _ _ => rfl⟩ | exact ⟨rfl, fun _ _ => rfl, p2⟩ | exact ⟨fun _ _ => rfl, p2⟩ | exact ⟨rfl, rfl, p2⟩ | trivial | exact rfl | exact ⟨rfl, trivial⟩ | exact ⟨rfl, rfl⟩), ?_⟩
        (repeat (refine hp.N ?_; cbv))
        replace h2 := grd_inv h2
        obtain ⟨p3, h2⟩ := h2
        refine ⟨by (first | exact p3 | exact ⟨rfl, p3⟩ | exact ⟨p3, trivial⟩ | exact ⟨rfl, p3, trivial⟩ | exact ⟨p3, fun _ _ => rfl⟩ | exact ⟨rfl, fun _ _ => rfl, p3⟩ | exact ⟨fun _ _ => rfl, p3⟩ | exact ⟨rfl, rfl, p3⟩ | trivial | exact rfl | exact ⟨rfl, trivial⟩ | exact ⟨rfl, rfl⟩), ?_⟩
        (repeat (refine hp.N ?_; cbv))
        refine ⟨_, _, ⟨l2, loop_next h2 g2⟩, [], ?_⟩
        (cbv; repeat (refine hp.N ?_; cbv))
        (repeat' (first | trivial | exact AB.sub_refl _ | exact AB.sub_any _ | exact rfl | exact AB.cells_eq (fun _ _ _ => rfl) | exact AB.sub_lst rfl (fun _ _ _ => rfl) | exact AB.sub_nil _ | (refine AB.sub_lst rfl ?_; intro i h0 h1; exact absurd (Int.lt_of_le_of_lt h0 h1) (by decide)) | (intro hq; exact absurd hq (by decide)) | exact AB.subLn | refine AB.subLc ?_ ?_ | refine AB.sub_agg ?_ | (refine AB.sub_lst' ?_; intro _ _ _) | exact (fun _ => AB.own_val _ _ (fun _ => rfl)) | (intro i h0 h1; exact absurd (Int.lt_of_le_of_lt h0 h1) (by decide)) | refine ⟨?_, ?_⟩))
      · rw [c1]
        (cbv; repeat (refine hp.N ?_; cbv))
        replace h1 := loop_out h2 g2
        clear h2 g2
        try rw [c1] at h1
        refine ⟨_, end_eq h1, [], ?_⟩
        (cbv; repeat (refine hp.N ?_; cbv))
        (repeat' (first | trivial | exact AB.sub_refl _ | exact AB.sub_any _ | exact rfl | exact AB.cells_eq (fun _ _ _ => rfl) | exact AB.sub_lst rfl (fun _ _ _ => rfl) | exact AB.sub_nil _ | (refine AB.sub_lst rfl ?_; intro i h0 h1; exact absurd (Int.lt_of_le_of_lt h0 h1) (by decide)) | (intro hq; exact absurd hq (by decide)) | exact AB.subLn | refine AB.subLc ?_ ?_ | refine AB.sub_agg ?_ | (refine AB.sub_lst' ?_; intro _ _ _) | exact (fun _ => AB.own_val _ _ (fun _ => rfl)) | (intro i h0 h1; exact absurd (Int.lt_of_le_of_lt h0 h1) (by decide)) | refine ⟨?_, ?_⟩))
  · rintro x15 ho
    subst ho
    replace h0 := g1
    clear h1 g1
    try dsimp only [cutO] at h0
    (cbv; repeat (refine hp.N ?_; cbv))
    obtain rfl := Option.some.inj h0
    (repeat' (first | trivial | exact AB.sub_refl _ | exact AB.sub_any _ | exact rfl | exact AB.cells_eq (fun _ _ _ => rfl) | exact AB.sub_lst rfl (fun _ _ _ => rfl) | exact AB.sub_nil _ | (refine AB.sub_lst rfl ?_; intro i h0 h1; exact absurd (Int.lt_of_le_of_lt h0 h1) (by decide)) | (intro hq; exact absurd hq (by decide)) | exact AB.subLn | refine AB.subLc ?_ ?_ | refine AB.sub_agg ?_ | (refine AB.sub_lst' ?_; intro _ _ _) | exact (fun _ => AB.own_val _ _ (fun _ => rfl)) | (intro i h0 h1; exact absurd (Int.lt_of_le_of_lt h0 h1) (by decide)) | refine ⟨?_, ?_⟩))
end S
end
section
open Go AB
namespace S
open Go.Proofs
variable {G : GI} [Env G]
set_option maxRecDepth 1000000
set_option linter.unusedVariables false
set_option maxHeartbeats 4000000
/-- loop.example/g01248/spec.l1Seal -/
noncomputable def spec_l1Seal (K : Nat) (a1 : ByteArray) : Option ByteArray :=
  grd (std.cats a1 ⟨#[35]⟩) <|
  bnd (spec_l1Sum K a1) fun (x4 : Int) =>
  bnd (spec_l1Num K K x4) fun (x5 : ByteArray) =>
  grd (std.cats (std.scat a1 ⟨#[35]⟩) x5) <|
  some (std.scat (std.scat a1 ⟨#[35]⟩) x5)
theorem spec_l1Seal_con (K : Nat) (a1 : ByteArray) (r1 : ByteArray) (h0 : spec_l1Seal K a1 = some r1) : Con P G 134 none [.val (.string a1)] (.val (.string r1)) none := by
  refine con_by tok mo Tryd.func134 rfl rfl (by (first | (rintro _ ⟨rfl⟩; simp; done) | (simp; done) | (intro _ hq; cases hq))) (by (first | (rintro _ _ ⟨rfl⟩ ⟨rfl⟩; rfl) | (simp; done))) ?_
  (rintro ⟨⟨add, sub, mul, quo, rem, neg, bits, shl, shr, lt, le, eq, beq, bnot, band, conv, imin, imax, slen, sat, ssub, scat, seq, slt, ofB, nadd, nsub, selI, selS, selB, selF, isin, cut, fits, nz, makes, cats, shok⟩, C, D, W, S, N⟩ hp; replace hp := AB.isReal hp)
  unfold spec_l1Seal at h0
  ((try rw [← hp.L] at h0); (try dsimp only at h0))
  (cbv; repeat (refine hp.N ?_; cbv))
  replace h0 := grd_inv h0
  obtain ⟨p1, h0⟩ := h0
  refine ⟨by (first | exact p1 | exact ⟨rfl, p1⟩ | exact ⟨p1, trivial⟩ | exact ⟨rfl, p1, trivial⟩ | exact ⟨p1, fun _ _ => rfl⟩ | exact ⟨rfl, fun _ _ => rfl, p1⟩ | exact ⟨fun _ _ => rfl, p1⟩ | exact ⟨rfl, rfl, p1⟩ | trivial | exact rfl | exact ⟨rfl, trivial⟩ | exact ⟨rfl, rfl⟩), ?_⟩
  (repeat (refine hp.N ?_; cbv))
  replace h0 := bnd_inv h0
  obtain ⟨x4, q2, h0⟩ := h0
  (first | refine .inl (hp.C _ (spec_l1Sum_con K _ _ q2) ?_) | refine .inl ⟨by (first | trivial | exact rfl | exact ⟨rfl, rfl⟩ | exact ⟨rfl, trivial⟩ | exact ⟨trivial, rfl⟩ | (refine ⟨?_, ?_⟩ <;> first | trivial | exact rfl)), hp.C _ (spec_l1Sum_con K _ _ q2) ?_⟩ | refine hp.C _ (spec_l1Sum_con K _ _ q2) ?_)
  (cbv; repeat (refine hp.N ?_; cbv))
  replace h0 := bnd_inv h0
  obtain ⟨x5, q3, h0⟩ := h0
  (first | refine .inl (hp.C _ (spec_l1Num_con K K _ _ q3) ?_) | refine .inl ⟨by (first | trivial | exact rfl | exact ⟨rfl, rfl⟩ | exact ⟨rfl, trivial⟩ | exact ⟨trivial, rfl⟩ | (refine ⟨?_, ?_⟩ <;> first | trivial | exact rfl)), hp.C _ (spec_l1Num_con K K _ _ q3) ?_⟩ | refine hp.C _ (spec_l1Num_con K K _ _ q3) ?_)
  (cbv; repeat (refine hp.N ?_; cbv))
  replace h0 := grd_inv h0
  obtain ⟨p4, h0⟩ := h0
  refine ⟨by (first | exact p4 | exact ⟨rfl, p4⟩ | exact ⟨p4, trivial⟩ | exact ⟨rfl, p4, trivial⟩ | exact ⟨p4, fun _ _ => rfl⟩ | exact ⟨rfl, fun _ _ => rfl, p4⟩ | exact ⟨fun _ _ => rfl, p4⟩ | exact ⟨rfl, rfl, p4⟩ | trivial | exact rfl | exact ⟨rfl, trivial⟩ | exact ⟨rfl, rfl⟩), ?_⟩
  (repeat (refine hp.N ?_; cbv))
  obtain rfl := Option.some.inj h0
  (repeat' (first | trivial | exact AB.sub_refl _ | exact AB.sub_any _ | exact rfl | exact AB.cells_eq (fun _ _ _ => rfl) | exact AB.sub_lst rfl (fun _ _ _ => rfl) | exact AB.sub_nil _ | (refine AB.sub_lst rfl ?_; intro i h0 h1; exact absurd (Int.lt_of_le_of_lt h0 h1) (by decide)) | (intro hq; exact absurd hq (by decide)) | exact AB.subLn | refine AB.subLc ?_ ?_ | refine AB.sub_agg ?_ | (refine AB.sub_lst' ?_; intro _ _ _) | exact (fun _ => AB.own_val _ _ (fun _ => rfl)) | (intro i h0 h1; exact absurd (Int.lt_of_le_of_lt h0 h1) (by decide)) | refine ⟨?_, ?_⟩))
end S
end
section
open Go AB
namespace S
open Go.Proofs
variable {G : GI} [Env G]
set_option maxRecDepth 1000000
set_option linter.unusedVariables false
set_option maxHeartbeats 4000000
/-- loop.example/g01248/spec.l1Stands -/
noncomputable def spec_l1Stands_s2 (a1 : ByteArray) (a2 : Int) : Int → Option ((Int) ⊕ ((Unit) ⊕ (Bool)))
  | x10 =>
  cnd (std.lt x10 (std.slen a1)) (
    grd (std.isin x10 (std.slen a1)) <|
    cnd (std.eq (std.sat a1 x10) a2) (
      out (
        out (
          some true))) (
      some (.inl (std.add .i64 x10 1)))) (
    out (
      some (.inl ())))
noncomputable def spec_l1Stands (K : Nat) (a1 : ByteArray) (a2 : Int) : Option Bool :=
  cut (
    loopF (spec_l1Stands_s2 a1 a2) K (0 : Int)) fun _ =>
  some false
theorem spec_l1Stands_con (K : Nat) (a1 : ByteArray) (a2 : Int) (r1 : Bool) (h0 : spec_l1Stands K a1 a2 = some r1) : Con P G 133 none [.val (.string a1), .val (.int .u8 a2)] (.val (.bool r1)) none := by
  refine con_by tok mo Tryd.func133 rfl rfl (by (first | (rintro _ ⟨rfl⟩; simp; done) | (simp; done) | (intro _ hq; cases hq))) (by (first | (rintro _ _ ⟨rfl⟩ ⟨rfl⟩; rfl) | (simp; done))) ?_
  (rintro ⟨⟨add, sub, mul, quo, rem, neg, bits, shl, shr, lt, le, eq, beq, bnot, band, conv, imin, imax, slen, sat, ssub, scat, seq, slt, ofB, nadd, nsub, selI, selS, selB, selF, isin, cut, fits, nz, makes, cats, shok⟩, C, D, W, S, N⟩ hp; replace hp := AB.isReal hp)
  unfold spec_l1Stands at h0
  ((try rw [← hp.L] at h0); (try dsimp only at h0))
  (cbv; repeat (refine hp.N ?_; cbv))
  replace h0 := cut_inv h0
  obtain ⟨o1, h1, g1⟩ := h0
  refine hp.S (Unit) (fun y => o1 = .inl y) (fun _ σ => ⟨frS [] 0 0 σ.s, []⟩) ?_ ?_
  · (cbv; repeat (refine hp.N ?_; cbv))
    refine hp.W (Int) (fun x k => loopF (spec_l1Stands_s2 a1 a2) k x = some o1) (fun x10 σ => ⟨frS [(4, .any), (5, .val (.int .i64 x10))] 6 0 σ.s, []⟩) ⟨(0 : Int), K, h1, [], ?_⟩ ?_
    · (cbv; repeat (refine hp.N ?_; cbv))
      (repeat' (first | trivial | exact AB.sub_refl _ | exact AB.sub_any _ | exact rfl | exact AB.cells_eq (fun _ _ _ => rfl) | exact AB.sub_lst rfl (fun _ _ _ => rfl) | exact AB.sub_nil _ | (refine AB.sub_lst rfl ?_; intro i h0 h1; exact absurd (Int.lt_of_le_of_lt h0 h1) (by decide)) | (intro hq; exact absurd hq (by decide)) | exact AB.subLn | refine AB.subLc ?_ ?_ | refine AB.sub_agg ?_ | (refine AB.sub_lst' ?_; intro _ _ _) | exact (fun _ => AB.own_val _ _ (fun _ => rfl)) | (intro i h0 h1; exact absurd (Int.lt_of_le_of_lt h0 h1) (by decide)) | refine ⟨?_, ?_⟩))
    · rintro x10 k2 hI
      replace hI := loopF_inv hI
      obtain ⟨m2, o2, l2, h2, g2⟩ := hI
      unfold spec_l1Stands_s2 at h2
      try dsimp only at h2
      ((try rw [← hp.L] at h2); (try dsimp only at h2))
      (cbv; repeat (refine hp.N ?_; cbv))
      replace h2 := cnd_inv h2
      rcases h2 with ⟨c1, h2⟩ | ⟨c1, h2⟩
      · rw [c1]
        (cbv; repeat (refine hp.N ?_; cbv))
        replace h2 := grd_inv h2
        obtain ⟨p2, h2⟩ := h2
        refine ⟨by (first | exact p2 | exact ⟨rfl, p2⟩ | exact ⟨p2, trivial⟩ | exact ⟨rfl, p2, trivial⟩ | exact ⟨p2, fun _ _ => rfl⟩ | exact ⟨rfl, fun _ _ => rfl, p2⟩ | exact ⟨fun _ _ => rfl, p2⟩ | exact ⟨rfl, rfl, p2⟩ | trivial | exact rfl | exact ⟨rfl, trivial⟩ | exact ⟨rfl, rfl⟩), ?_⟩
        (repeat (refine hp.N ?_; cbv))
        replace h2 := cnd_inv h2
        rcases h2 with ⟨c3, h2⟩ | ⟨c3, h2⟩
        · rw [c3]
          (cbv; repeat (refine hp.N ?_; cbv))
          replace h1 := loop_out h2 g2
          clear h2 g2
          try rw [c1] at h1
          try rw [c3] at h1
          replace h0 := cut_out h1 g1
          clear h1 g1
          try rw [c1] at h0
          try rw [c3] at h0
          obtain rfl := Option.some.inj h0
          (repeat' (first | trivial | exact AB.sub_refl _ | exact AB.sub_any _ | exact rfl | exact AB.cells_eq (fun _ _ _ => rfl) | exact AB.sub_lst rfl (fun _ _ _ => rfl) | exact AB.sub_nil _ | (refine AB.sub_lst rfl ?_; intro i h0 h1; exact absurd (Int.lt_of_le_of_lt h0 h1) (by decide)) | (intro hq; exact absurd hq (by decide)) | exact AB.subLn | refine AB.subLc ?_ ?_ | refine AB.sub_agg ?_ | (refine AB.sub_lst' ?_; intro _ _ _) | exact (fun _ => AB.own_val _ _ (fun _ => rfl)) | (intro i h0 h1; exact absurd (Int.lt_of_le_of_lt h0 h1) (by decide)) | refine ⟨?_, ?_⟩))
        · rw [c3]
          (cbv; repeat (refine hp.N ?_; cbv))
          refine ⟨_, _, ⟨l2, loop_next h2 g2⟩, [], ?_⟩
          (cbv; repeat (refine hp.N ?_; cbv))
          (repeat' (first | trivial | exact AB.sub_refl _ | exact AB.sub_any _ | exact rfl | exact AB.cells_eq (fun _ _ _ => rfl) | exact AB.sub_lst rfl (fun _ _ _ => rfl) | exact AB.sub_nil _ | (refine AB.sub_lst rfl ?_; intro i h0 h1; exact absurd (Int.lt_of_le_of_lt h0 h1) (by decide)) | (intro hq; exact absurd hq (by decide)) | exact AB.subLn | refine AB.subLc ?_ ?_ | refine AB.sub_agg ?_ | (refine AB.sub_lst' ?_; intro _ _ _) | exact (fun _ => AB.own_val _ _ (fun _ => rfl)) | (intro i h0 h1; exact absurd (Int.lt_of_le_of_lt h0 h1) (by decide)) | refine ⟨?_, ?_⟩))
      · rw [c1]
        (cbv; repeat (refine hp.N ?_; cbv))
        replace h1 := loop_out h2 g2
        clear h2 g2
        try rw [c1] at h1
        refine ⟨_, end_eq h1, [], ?_⟩
        (cbv; repeat (refine hp.N ?_; cbv))
        (repeat' (first | trivial | exact AB.sub_refl _ | exact AB.sub_any _ | exact rfl | exact AB.cells_eq (fun _ _ _ => rfl) | exact AB.sub_lst rfl (fun _ _ _ => rfl) | exact AB.sub_nil _ | (refine AB.sub_lst rfl ?_; intro i h0 h1; exact absurd (Int.lt_of_le_of_lt h0 h1) (by decide)) | (intro hq; exact absurd hq (by decide)) | exact AB.subLn | refine AB.subLc ?_ ?_ | refine AB.sub_agg ?_ | (refine AB.sub_lst' ?_; intro _ _ _) | exact (fun _ => AB.own_val _ _ (fun _ => rfl)) | (intro i h0 h1; exact absurd (Int.lt_of_le_of_lt h0 h1) (by decide)) | refine ⟨?_, ?_⟩))
  · rintro ⟨⟩ ho
    subst ho
    replace h0 := g1
    clear h1 g1
    try dsimp only [cutO] at h0
    (cbv; repeat (refine hp.N ?_; cbv))
    obtain rfl := Option.some.inj h0
    (repeat' (first | trivial | exact AB.sub_refl _ | exact AB.sub_any _ | exact rfl | exact AB.cells_eq (fun _ _ _ => rfl) | exact AB.sub_lst rfl (fun _ _ _ => rfl) | exact AB.sub_nil _ | (refine AB.sub_lst rfl ?_; intro i h0 h1; exact absurd (Int.lt_of_le_of_lt h0 h1) (by decide)) | (intro hq; exact absurd hq (by decide)) | exact AB.subLn | refine AB.subLc ?_ ?_ | refine AB.sub_agg ?_ | (refine AB.sub_lst' ?_; intro _ _ _) | exact (fun _ => AB.own_val _ _ (fun _ => rfl)) | (intro i h0 h1; exact absurd (Int.lt_of_le_of_lt h0 h1) (by decide)) | refine ⟨?_, ?_⟩))
end S
end
section
open Go AB
namespace S
open Go.Proofs
variable {G : GI} [Env G]
set_option maxRecDepth 1000000
set_option linter.unusedVariables false
set_option maxHeartbeats 4000000
/-- loop.example/g01248/spec.AppendChecksum -/
noncomputable def spec_AppendChecksum (K : Nat) (a1 : ByteArray) : Option (ByteArray × Bool) :=
  cut (
    cnd (std.lt 4000 (std.slen a1)) (
      some (.inl true)) (
      bnd (spec_l1Stands K a1 35) fun (x11 : Bool) =>
      cnd (x11) (
        some (.inl true)) (
        bnd (spec_l1Seal K a1) fun (x12 : ByteArray) =>
        some (.inl (std.lt 4000 (std.slen x12)))))) fun (x10 : Bool) =>
  cnd (x10) (
    some (⟨#[]⟩, false)) (
    bnd (spec_l1Seal K a1) fun (x13 : ByteArray) =>
    some (x13, true))
theorem spec_AppendChecksum_con (K : Nat) (a1 : ByteArray) (r1 : ByteArray) (r2 : Bool) (h0 : spec_AppendChecksum K a1 = some (r1, r2)) : Con P G 40 none [.val (.string a1)] (.tup [.val (.string r1), .val (.bool r2)]) none := by
  refine con_by tok mo Tryd.func40 rfl rfl (by (first | (rintro _ ⟨rfl⟩; simp; done) | (simp; done) | (intro _ hq; cases hq))) (by (first | (rintro _ _ ⟨rfl⟩ ⟨rfl⟩; rfl) | (simp; done))) ?_
  (rintro ⟨⟨add, sub, mul, quo, rem, neg, bits, shl, shr, lt, le, eq, beq, bnot, band, conv, imin, imax, slen, sat, ssub, scat, seq, slt, ofB, nadd, nsub, selI, selS, selB, selF, isin, cut, fits, nz, makes, cats, shok⟩, C, D, W, S, N⟩ hp; replace hp := AB.isReal hp)
  unfold spec_AppendChecksum at h0
  ((try rw [← hp.L] at h0); (try dsimp only at h0))
  (cbv; repeat (refine hp.N ?_; cbv))
  replace h0 := cut_inv h0
  obtain ⟨o1, h1, g1⟩ := h0
  refine hp.S (Bool) (fun y => o1 = .inl y) (fun x10 σ => ⟨frS [(2, .any), (3, .any), (16, .val (.bool x10))] 17 0 σ.s, []⟩) ?_ ?_
  · (cbv; repeat (refine hp.N ?_; cbv))
    replace h1 := cnd_inv h1
    rcases h1 with ⟨c1, h1⟩ | ⟨c1, h1⟩
    · rw [c1]
      (cbv; repeat (refine hp.N ?_; cbv))
      refine ⟨_, end_eq h1, [], ?_⟩
      (cbv; repeat (refine hp.N ?_; cbv))
      (repeat' (first | trivial | exact AB.sub_refl _ | exact AB.sub_any _ | exact rfl | exact AB.cells_eq (fun _ _ _ => rfl) | exact AB.sub_lst rfl (fun _ _ _ => rfl) | exact AB.sub_nil _ | (refine AB.sub_lst rfl ?_; intro i h0 h1; exact absurd (Int.lt_of_le_of_lt h0 h1) (by decide)) | (intro hq; exact absurd hq (by decide)) | exact AB.subLn | refine AB.subLc ?_ ?_ | refine AB.sub_agg ?_ | (refine AB.sub_lst' ?_; intro _ _ _) | exact (fun _ => AB.own_val _ _ (fun _ => rfl)) | (intro i h0 h1; exact absurd (Int.lt_of_le_of_lt h0 h1) (by decide)) | refine ⟨?_, ?_⟩))
    · rw [c1]
      (cbv; repeat (refine hp.N ?_; cbv))
      replace h1 := bnd_inv h1
      obtain ⟨x11, q2, h1⟩ := h1
      (first | refine .inl (hp.C _ (spec_l1Stands_con K _ _ _ q2) ?_) | refine .inl ⟨by (first | trivial | exact rfl | exact ⟨rfl, rfl⟩ | exact ⟨rfl, trivial⟩ | exact ⟨trivial, rfl⟩ | (refine ⟨?_, ?_⟩ <;> first | trivial | exact rfl)), hp.C _ (spec_l1Stands_con K _ _ _ q2) ?_⟩ | refine hp.C _ (spec_l1Stands_con K _ _ _ q2) ?_)
      (cbv; repeat (refine hp.N ?_; cbv))
      replace h1 := cnd_inv h1
      rcases h1 with ⟨c3, h1⟩ | ⟨c3, h1⟩
      · subst c3
        (cbv; repeat (refine hp.N ?_; cbv))
        refine ⟨_, end_eq h1, [], ?_⟩
        (cbv; repeat (refine hp.N ?_; cbv))
        (repeat' (first | trivial | exact AB.sub_refl _ | exact AB.sub_any _ | exact rfl | exact AB.cells_eq (fun _ _ _ => rfl) | exact AB.sub_lst rfl (fun _ _ _ => rfl) | exact AB.sub_nil _ | (refine AB.sub_lst rfl ?_; intro i h0 h1; exact absurd (Int.lt_of_le_of_lt h0 h1) (by decide)) | (intro hq; exact absurd hq (by decide)) | exact AB.subLn | refine AB.subLc ?_ ?_ | refine AB.sub_agg ?_ | (refine AB.sub_lst' ?_; intro _ _ _) | exact (fun _ => AB.own_val _ _ (fun _ => rfl)) | (intro i h0 h1; exact absurd (Int.lt_of_le_of_lt h0 h1) (by decide)) | refine ⟨?_, ?_⟩))
      · subst c3
        (cbv; repeat (refine hp.N ?_; cbv))
        replace h1 := bnd_inv h1
        obtain ⟨x12, q4, h1⟩ := h1
        (first | refine .inl (hp.C _ (spec_l1Seal_con K _ _ q4) ?_) | refine .inl ⟨by (first | trivial | exact rfl | exact ⟨rfl, rfl⟩ | exact ⟨rfl, trivial⟩ | exact ⟨trivial, rfl⟩ | (refine ⟨?_, ?_⟩ <;> first | trivial | exact rfl)), hp.C _ (spec_l1Seal_con K _ _ q4) ?_⟩ | refine hp.C _ (spec_l1Seal_con K _ _ q4) ?_)
        (cbv; repeat (refine hp.N ?_; cbv))
        refine ⟨_, end_eq h1, [], ?_⟩
        (cbv; repeat (refine hp.N ?_; cbv))
        (repeat' (first | trivial | exact AB.sub_refl _ | exact AB.sub_any _ | exact rfl | exact AB.cells_eq (fun _ _ _ => rfl) | exact AB.sub_lst rfl (fun _ _ _ => rfl) | exact AB.sub_nil _ | (refine AB.sub_lst rfl ?_; intro i h0 h1; exact absurd (Int.lt_of_le_of_lt h0 h1) (by decide)) | (intro hq; exact absurd hq (by decide)) | exact AB.subLn | refine AB.subLc ?_ ?_ | refine AB.sub_agg ?_ | (refine AB.sub_lst' ?_; intro _ _ _) | exact (fun _ => AB.own_val _ _ (fun _ => rfl)) | (intro i h0 h1; exact absurd (Int.lt_of_le_of_lt h0 h1) (by decide)) | refine ⟨?_, ?_⟩))
  · rintro x10 ho
    subst ho
    replace h0 := g1
    clear h1 g1
    try dsimp only [cutO] at h0
    (cbv; repeat (refine hp.N ?_; cbv))
    replace h0 := cnd_inv h0
    rcases h0 with ⟨c5, h0⟩ | ⟨c5, h0⟩
    · subst c5
      (cbv; repeat (refine hp.N ?_; cbv))
      simp only [Option.some.injEq, Prod.mk.injEq] at h0
      obtain ⟨rfl, rfl⟩ := h0
      (repeat' (first | trivial | exact AB.sub_refl _ | exact AB.sub_any _ | exact rfl | exact AB.cells_eq (fun _ _ _ => rfl) | exact AB.sub_lst rfl (fun _ _ _ => rfl) | exact AB.sub_nil _ | (refine AB.sub_lst rfl ?_; intro i h0 h1; exact absurd (Int.lt_of_le_of_lt h0 h1) (by decide)) | (intro hq; exact absurd hq (by decide)) | exact AB.subLn | refine AB.subLc ?_ ?_ | refine AB.sub_agg ?_ | (refine AB.sub_lst' ?_; intro _ _ _) | exact (fun _ => AB.own_val _ _ (fun _ => rfl)) | (intro i h0 h1; exact absurd (Int.lt_of_le_of_lt h0 h1) (by decide)) | refine ⟨?_, ?_⟩))
    · subst c5
      (cbv; repeat (refine hp.N ?_; cbv))
      replace h0 := bnd_inv h0
      obtain ⟨x13, q6, h0⟩ := h0
      (first | refine .inl (hp.C _ (spec_l1Seal_con K _ _ q6) ?_) | refine .inl ⟨by (first | trivial | exact rfl | exact ⟨rfl, rfl⟩ | exact ⟨rfl, trivial⟩ | exact ⟨trivial, rfl⟩ | (refine ⟨?_, ?_⟩ <;> first | trivial | exact rfl)), hp.C _ (spec_l1Seal_con K _ _ q6) ?_⟩ | refine hp.C _ (spec_l1Seal_con K _ _ q6) ?_)
      (cbv; repeat (refine hp.N ?_; cbv))
      simp only [Option.some.injEq, Prod.mk.injEq] at h0
      obtain ⟨rfl, rfl⟩ := h0
      (repeat' (first | trivial | exact AB.sub_refl _ | exact AB.sub_any _ | exact rfl | exact AB.cells_eq (fun _ _ _ => rfl) | exact AB.sub_lst rfl (fun _ _ _ => rfl) | exact AB.sub_nil _ | (refine AB.sub_lst rfl ?_; intro i h0 h1; exact absurd (Int.lt_of_le_of_lt h0 h1) (by decide)) | (intro hq; exact absurd hq (by decide)) | exact AB.subLn | refine AB.subLc ?_ ?_ | refine AB.sub_agg ?_ | (refine AB.sub_lst' ?_; intro _ _ _) | exact (fun _ => AB.own_val _ _ (fun _ => rfl)) | (intro i h0 h1; exact absurd (Int.lt_of_le_of_lt h0 h1) (by decide)) | refine ⟨?_, ?_⟩))
end S
end
section
open Go AB
namespace S
open Go.Proofs
variable {G : GI} [Env G]
set_option maxRecDepth 1000000
set_option linter.unusedVariables false
set_option maxHeartbeats 4000000
/-- (*loop.example/g01248/spec.l1Cur).next -/
noncomputable def spec_l1Cur_next (a1 : Int) (a2 : Int → Int) (a3 : Int) (a4 : Int) : Option (Int × Int × Int) :=
  cut (
    cnd (std.lt a3 a1) (
      grd (std.isin a3 a1) <|
      some (.inl (std.conv .i64 (a2 a3)))) (
      some (.inl 0))) fun (x6 : Int) =>
  cnd (std.le (std.add .i64 a3 1) a1) (
    some (x6, std.add .i64 a3 1, std.add .u64 (std.add .u64 (std.mul .u64 a4 6364136223846793005) (std.conv .u64 x6)) 462197)) (
    grd (std.shok 40) <|
    some (std.conv .i64 (std.bits .and .u64 (std.shr .u64 (std.add .u64 (std.add .u64 (std.mul .u64 a4 6364136223846793005) (std.conv .u64 x6)) 462197) 40) 255), std.add .i64 a3 1, std.add .u64 (std.add .u64 (std.mul .u64 a4 6364136223846793005) (std.conv .u64 x6)) 462197))
theorem spec_l1Cur_next_con (a1 : Int) (a2 : Int → Int) (a3 : Int) (a4 : Int) (r1 : Int) (r2 : Int) (r3 : Int) (h0 : spec_l1Cur_next a1 a2 a3 a4 = some (r1, r2, r3)) : Con P G 192 (some (.box [.lst a1 (fun k0 => [.val (.int .u8 (a2 k0))]), .val (.int .i64 a3), .val (.int .u64 a4)])) [] (.val (.int .i64 r1)) (some (.box [.lst a1 (fun k0 => [.val (.int .u8 (a2 k0))]), .val (.int .i64 r2), .val (.int .u64 r3)])) := by
  refine con_by tok mo Tryd.func192 rfl rfl (by (first | (rintro _ ⟨rfl⟩; simp; done) | (simp; done) | (intro _ hq; cases hq))) (by (first | (rintro _ _ ⟨rfl⟩ ⟨rfl⟩; rfl) | (simp; done))) ?_
  (rintro ⟨⟨add, sub, mul, quo, rem, neg, bits, shl, shr, lt, le, eq, beq, bnot, band, conv, imin, imax, slen, sat, ssub, scat, seq, slt, ofB, nadd, nsub, selI, selS, selB, selF, isin, cut, fits, nz, makes, cats, shok⟩, C, D, W, S, N⟩ hp; replace hp := AB.isReal hp)
  unfold spec_l1Cur_next at h0
  ((try rw [← hp.L] at h0); (try dsimp only at h0))
  (cbv; repeat (refine hp.N ?_; cbv))
  replace h0 := cut_inv h0
  obtain ⟨o1, h1, g1⟩ := h0
  refine hp.S (Int) (fun y => o1 = .inl y) (fun x6 σ => ⟨frS [(2, .any), (3, .val (.int .i64 x6))] 4 0 σ.s, [(1000000, .box false 1 [.lst a1 (fun k0 => [.val (.int .u8 (a2 k0))]), .val (.int .i64 a3), .val (.int .u64 a4)])]⟩) ?_ ?_
  · (cbv; repeat (refine hp.N ?_; cbv))
    replace h1 := cnd_inv h1
    rcases h1 with ⟨c1, h1⟩ | ⟨c1, h1⟩
    · rw [c1]
      (cbv; repeat (refine hp.N ?_; cbv))
      replace h1 := grd_inv h1
      obtain ⟨p2, h1⟩ := h1
      refine ⟨by (first | exact p2 | exact ⟨rfl, p2⟩ | exact ⟨p2, trivial⟩ | exact ⟨rfl, p2, trivial⟩ | exact ⟨p2, fun _ _ => rfl⟩ | exact ⟨rfl, fun _ _ => rfl, p2⟩ | exact ⟨fun _ _ => rfl, p2⟩ | exact ⟨rfl, rfl, p2⟩ | trivial | exact rfl | exact ⟨rfl, trivial⟩ | exact ⟨rfl, rfl⟩), ?_⟩
      (repeat (refine hp.N ?_; cbv))
      refine ⟨_, end_eq h1, [], ?_⟩
      (cbv; repeat (refine hp.N ?_; cbv))
      (repeat' (first | trivial | exact AB.sub_refl _ | exact AB.sub_any _ | exact rfl | exact AB.cells_eq (fun _ _ _ => rfl) | exact AB.sub_lst rfl (fun _ _ _ => rfl) | exact AB.sub_nil _ | (refine AB.sub_lst rfl ?_; intro i h0 h1; exact absurd (Int.lt_of_le_of_lt h0 h1) (by decide)) | (intro hq; exact absurd hq (by decide)) | exact AB.subLn | refine AB.subLc ?_ ?_ | refine AB.sub_agg ?_ | (refine AB.sub_lst' ?_; intro _ _ _) | exact (fun _ => AB.own_val _ _ (fun _ => rfl)) | (intro i h0 h1; exact absurd (Int.lt_of_le_of_lt h0 h1) (by decide)) | refine ⟨?_, ?_⟩))
    · rw [c1]
      (cbv; repeat (refine hp.N ?_; cbv))
      refine ⟨_, end_eq h1, [], ?_⟩
      (cbv; repeat (refine hp.N ?_; cbv))
      (repeat' (first | trivial | exact AB.sub_refl _ | exact AB.sub_any _ | exact rfl | exact AB.cells_eq (fun _ _ _ => rfl) | exact AB.sub_lst rfl (fun _ _ _ => rfl) | exact AB.sub_nil _ | (refine AB.sub_lst rfl ?_; intro i h0 h1; exact absurd (Int.lt_of_le_of_lt h0 h1) (by decide)) | (intro hq; exact absurd hq (by decide)) | exact AB.subLn | refine AB.subLc ?_ ?_ | refine AB.sub_agg ?_ | (refine AB.sub_lst' ?_; intro _ _ _) | exact (fun _ => AB.own_val _ _ (fun _ => rfl)) | (intro i h0 h1; exact absurd (Int.lt_of_le_of_lt h0 h1) (by decide)) | refine ⟨?_, ?_⟩))
  · rintro x6 ho
    subst ho
    replace h0 := g1
    clear h1 g1
    try dsimp only [cutO] at h0
    (cbv; repeat (refine hp.N ?_; cbv))
    replace h0 := cnd_inv h0
    rcases h0 with ⟨c3, h0⟩ | ⟨c3, h0⟩
    · rw [c3]
      (cbv; repeat (refine hp.N ?_; cbv))
      simp only [Option.some.injEq, Prod.mk.injEq] at h0
      obtain ⟨rfl, rfl, rfl⟩ := h0
      (repeat' (first | trivial | exact AB.sub_refl _ | exact AB.sub_any _ | exact rfl | exact AB.cells_eq (fun _ _ _ => rfl) | exact AB.sub_lst rfl (fun _ _ _ => rfl) | exact AB.sub_nil _ | (refine AB.sub_lst rfl ?_; intro i h0 h1; exact absurd (Int.lt_of_le_of_lt h0 h1) (by decide)) | (intro hq; exact absurd hq (by decide)) | exact AB.subLn | refine AB.subLc ?_ ?_ | refine AB.sub_agg ?_ | (refine AB.sub_lst' ?_; intro _ _ _) | exact (fun _ => AB.own_val _ _ (fun _ => rfl)) | (intro i h0 h1; exact absurd (Int.lt_of_le_of_lt h0 h1) (by decide)) | refine ⟨?_, ?_⟩))
    · rw [c3]
      (cbv; repeat (refine hp.N ?_; cbv))
      replace h0 := grd_inv h0
      obtain ⟨p4, h0⟩ := h0
      refine ⟨by (first | exact p4 | exact ⟨rfl, p4⟩ | exact ⟨p4, trivial⟩ | exact ⟨rfl, p4, trivial⟩ | exact ⟨p4, fun _ _ => rfl⟩ | exact ⟨rfl, fun _ _ => rfl, p4⟩ | exact ⟨fun _ _ => rfl, p4⟩ | exact ⟨rfl, rfl, p4⟩ | trivial | exact rfl | exact ⟨rfl, trivial⟩ | exact ⟨rfl, rfl⟩), ?_⟩
      (repeat (refine hp.N ?_; cbv))
      simp only [Option.some.injEq, Prod.mk.injEq] at h0
      obtain ⟨rfl, rfl, rfl⟩ := h0
      (repeat' (first | trivial | exact AB.sub_refl _ | exact AB.sub_any _ | exact rfl | exact AB.cells_eq (fun _ _ _ => rfl) | exact AB.sub_lst rfl (fun _ _ _ => rfl) | exact AB.sub_nil _ | (refine AB.sub_lst rfl ?_; intro i h0 h1; exact absurd (Int.lt_of_le_of_lt h0 h1) (by decide)) | (intro hq; exact absurd hq (by decide)) | exact AB.subLn | refine AB.subLc ?_ ?_ | refine AB.sub_agg ?_ | (refine AB.sub_lst' ?_; intro _ _ _) | exact (fun _ => AB.own_val _ _ (fun _ => rfl)) | (intro i h0 h1; exact absurd (Int.lt_of_le_of_lt h0 h1) (by decide)) | refine ⟨?_, ?_⟩))
end S
end
section
open Go AB
namespace S
open Go.Proofs
variable {G : GI} [Env G]
set_option maxRecDepth 1000000
set_option linter.unusedVariables false
set_option maxHeartbeats 4000000
/-- (*loop.example/g01248/spec.l1Cur).pick -/
noncomputable def spec_l1Cur_pick (a1 : Int) (a2 : Int → Int) (a3 : Int) (a4 : Int) (a5 : Int) : Option (Int × Int × Int) :=
  cnd (std.le a5 1) (
    some (0, a3, a4)) (
    bnd (spec_l1Cur_next a1 (fun k0 => a2 k0) a3 a4) fun (⟨x18, x19, x20⟩ : Int × Int × Int) =>
    cut (
      cnd (std.lt 200 a5) (
        bnd (spec_l1Cur_next a1 (fun k0 => a2 k0) x19 x20) fun (⟨x27, x28, x29⟩ : Int × Int × Int) =>
        some (.inl (std.add .i64 (std.mul .i64 x18 256) x27, x28, x29))) (
        some (.inl (x18, x19, x20)))) fun (⟨x24, x25, x26⟩ : Int × Int × Int) =>
    grd (std.nz a5) <|
    some (std.rem .i64 x24 a5, x25, x26))
theorem spec_l1Cur_pick_con (a1 : Int) (a2 : Int → Int) (a3 : Int) (a4 : Int) (a5 : Int) (r1 : Int) (r2 : Int) (r3 : Int) (h0 : spec_l1Cur_pick a1 a2 a3 a4 a5 = some (r1, r2, r3)) : Con P G 124 (some (.box [.lst a1 (fun k0 => [.val (.int .u8 (a2 k0))]), .val (.int .i64 a3), .val (.int .u64 a4)])) [.val (.int .i64 a5)] (.val (.int .i64 r1)) (some (.box [.lst a1 (fun k0 => [.val (.int .u8 (a2 k0))]), .val (.int .i64 r2), .val (.int .u64 r3)])) := by
  refine con_by tok mo Tryd.func124 rfl rfl (by (first | (rintro _ ⟨rfl⟩; simp; done) | (simp; done) | (intro _ hq; cases hq))) (by (first | (rintro _ _ ⟨rfl⟩ ⟨rfl⟩; rfl) | (simp; done))) ?_
  (rintro ⟨⟨add, sub, mul, quo, rem, neg, bits, shl, shr, lt, le, eq, beq, bnot, band, conv, imin, imax, slen, sat, ssub, scat, seq, slt, ofB, nadd, nsub, selI, selS, selB, selF, isin, cut, fits, nz, makes, cats, shok⟩, C, D, W, S, N⟩ hp; replace hp := AB.isReal hp)
  unfold spec_l1Cur_pick at h0
  ((try rw [← hp.L] at h0); (try dsimp only at h0))
  (cbv; repeat (refine hp.N ?_; cbv))
  replace h0 := cnd_inv h0
  rcases h0 with ⟨c1, h0⟩ | ⟨c1, h0⟩
  · rw [c1]
    (cbv; repeat (refine hp.N ?_; cbv))
    simp only [Option.some.injEq, Prod.mk.injEq] at h0
    obtain ⟨rfl, rfl, rfl⟩ := h0
    (repeat' (first | trivial | exact AB.sub_refl _ | exact AB.sub_any _ | exact rfl | exact AB.cells_eq (fun _ _ _ => rfl) | exact AB.sub_lst rfl (fun _ _ _ => rfl) | exact AB.sub_nil _ | (refine AB.sub_lst rfl ?_; intro i h0 h1; exact absurd (Int.lt_of_le_of_lt h0 h1) (by decide)) | (intro hq; exact absurd hq (by decide)) | exact AB.subLn | refine AB.subLc ?_ ?_ | refine AB.sub_agg ?_ | (refine AB.sub_lst' ?_; intro _ _ _) | exact (fun _ => AB.own_val _ _ (fun _ => rfl)) | (intro i h0 h1; exact absurd (Int.lt_of_le_of_lt h0 h1) (by decide)) | refine ⟨?_, ?_⟩))
  · rw [c1]
    (cbv; repeat (refine hp.N ?_; cbv))
    replace h0 := bnd_inv h0
    obtain ⟨⟨x18, x19, x20⟩, q2, h0⟩ := h0
    try dsimp only at h0
    (first | refine hp.D _ _ (spec_l1Cur_next_con _ _ _ _ _ _ _ q2) rfl ?_ | refine .inr (hp.D _ _ (spec_l1Cur_next_con _ _ _ _ _ _ _ q2) rfl ?_) | refine .inr ⟨by (first | trivial | exact rfl | exact ⟨rfl, rfl⟩ | exact ⟨rfl, trivial⟩ | exact ⟨trivial, rfl⟩ | (refine ⟨?_, ?_⟩ <;> first | trivial | exact rfl)), hp.D _ _ (spec_l1Cur_next_con _ _ _ _ _ _ _ q2) rfl ?_⟩ | refine ⟨by (first | trivial | exact rfl | exact ⟨rfl, rfl⟩ | exact ⟨rfl, trivial⟩ | exact ⟨trivial, rfl⟩ | (refine ⟨?_, ?_⟩ <;> first | trivial | exact rfl)), hp.D _ _ (spec_l1Cur_next_con _ _ _ _ _ _ _ q2) rfl ?_⟩)
    (cbv; repeat (refine hp.N ?_; cbv))
    replace h0 := cut_inv h0
    obtain ⟨o1, h1, g1⟩ := h0
    refine hp.S (Int × Int × Int) (fun y => o1 = .inl y) (fun ⟨x24, x25, x26⟩ σ => ⟨frS [(0, .any), (4, .any), (5, .val (.int .i64 x24))] 6 0 σ.s, [(1000000, .box false 1 [.lst a1 (fun k0 => [.val (.int .u8 (a2 k0))]), .val (.int .i64 x25), .val (.int .u64 x26)])]⟩) ?_ ?_
    · (cbv; repeat (refine hp.N ?_; cbv))
      replace h1 := cnd_inv h1
      rcases h1 with ⟨c3, h1⟩ | ⟨c3, h1⟩
      · rw [c3]
        (cbv; repeat (refine hp.N ?_; cbv))
        replace h1 := bnd_inv h1
        obtain ⟨⟨x27, x28, x29⟩, q4, h1⟩ := h1
        try dsimp only at h1
        (first | refine hp.D _ _ (spec_l1Cur_next_con _ _ _ _ _ _ _ q4) rfl ?_ | refine .inr (hp.D _ _ (spec_l1Cur_next_con _ _ _ _ _ _ _ q4) rfl ?_) | refine .inr ⟨by (first | trivial | exact rfl | exact ⟨rfl, rfl⟩ | exact ⟨rfl, trivial⟩ | exact ⟨trivial, rfl⟩ | (refine ⟨?_, ?_⟩ <;> first | trivial | exact rfl)), hp.D _ _ (spec_l1Cur_next_con _ _ _ _ _ _ _ q4) rfl ?_⟩ | refine ⟨by (first | trivial | exact rfl | exact ⟨rfl, rfl⟩ | exact ⟨rfl, trivial⟩ | exact ⟨trivial, rfl⟩ | (refine ⟨?_, ?_⟩ <;> first | trivial | exact rfl)), hp.D _ _ (spec_l1Cur_next_con _ _ _ _ _ _ _ q4) rfl ?_⟩)
        (cbv; repeat (refine hp.N ?_; cbv))
        refine ⟨_, end_eq h1, [], ?_⟩
        (cbv; repeat (refine hp.N ?_; cbv))
        (repeat' (first | trivial | exact AB.sub_refl _ | exact AB.sub_any _ | exact rfl | exact AB.cells_eq (fun _ _ _ => rfl) | exact AB.sub_lst rfl (fun _ _ _ => rfl) | exact AB.sub_nil _ | (refine AB.sub_lst rfl ?_; intro i h0 h1; exact absurd (Int.lt_of_le_of_lt h0 h1) (by decide)) | (intro hq; exact absurd hq (by decide)) | exact AB.subLn | refine AB.subLc ?_ ?_ | refine AB.sub_agg ?_ | (refine AB.sub_lst' ?_; intro _ _ _) | exact (fun _ => AB.own_val _ _ (fun _ => rfl)) | (intro i h0 h1; exact absurd (Int.lt_of_le_of_lt h0 h1) (by decide)) | refine ⟨?_, ?_⟩))
      · rw [c3]
        (cbv; repeat (refine hp.N ?_; cbv))
        refine ⟨_, end_eq h1, [], ?_⟩
        (cbv; repeat (refine hp.N ?_; cbv))
        (repeat' (first | trivial | exact AB.sub_refl _ | exact AB.sub_any _ | exact rfl | exact AB.cells_eq (fun _ _ _ => rfl) | exact AB.sub_lst rfl (fun _ _ _ => rfl) | exact AB.sub_nil _ | (refine AB.sub_lst rfl ?_; intro i h0 h1; exact absurd (Int.lt_of_le_of_lt h0 h1) (by decide)) | (intro hq; exact absurd hq (by decide)) | exact AB.subLn | refine AB.subLc ?_ ?_ | refine AB.sub_agg ?_ | (refine AB.sub_lst' ?_; intro _ _ _) | exact (fun _ => AB.own_val _ _ (fun _ => rfl)) | (intro i h0 h1; exact absurd (Int.lt_of_le_of_lt h0 h1) (by decide)) | refine ⟨?_, ?_⟩))
    · rintro ⟨x24, x25, x26⟩ ho
      subst ho
      replace h0 := g1
      clear h1 g1
      try dsimp only [cutO] at h0
      (cbv; repeat (refine hp.N ?_; cbv))
      replace h0 := grd_inv h0
      obtain ⟨p5, h0⟩ := h0
      refine ⟨by (first | exact p5 | exact ⟨rfl, p5⟩ | exact ⟨p5, trivial⟩ | exact ⟨rfl, p5, trivial⟩ | exact ⟨p5, fun _ _ => rfl⟩ | exact ⟨rfl, fun _ _ => rfl, p5⟩ | exact ⟨fun _ _ => rfl, p5⟩ | exact ⟨rfl, rfl, p5⟩ | trivial | exact rfl | exact ⟨rfl, trivial⟩ | exact ⟨rfl, rfl⟩), ?_⟩
      (repeat (refine hp.N ?_; cbv))
      simp only [Option.some.injEq, Prod.mk.injEq] at h0
      obtain ⟨rfl, rfl, rfl⟩ := h0
      (repeat' (first | trivial | exact AB.sub_refl _ | exact AB.sub_any _ | exact rfl | exact AB.cells_eq (fun _ _ _ => rfl) | exact AB.sub_lst rfl (fun _ _ _ => rfl) | exact AB.sub_nil _ | (refine AB.sub_lst rfl ?_; intro i h0 h1; exact absurd (Int.lt_of_le_of_lt h0 h1) (by decide)) | (intro hq; exact absurd hq (by decide)) | exact AB.subLn | refine AB.subLc ?_ ?_ | refine AB.sub_agg ?_ | (refine AB.sub_lst' ?_; intro _ _ _) | exact (fun _ => AB.own_val _ _ (fun _ => rfl)) | (intro i h0 h1; exact absurd (Int.lt_of_le_of_lt h0 h1) (by decide)) | refine ⟨?_, ?_⟩))
end S
end
section
open Go AB
namespace S
open Go.Proofs
variable {G : GI} [Env G]
set_option maxRecDepth 1000000
set_option linter.unusedVariables false
set_option maxHeartbeats 4000000
/-- (*loop.example/g01248/spec.l1Cur).of -/
noncomputable def spec_l1Cur_of (a1 : Int) (a2 : Int → Int) (a3 : Int) (a4 : Int) (a5 : Int) (a6 : Int → ByteArray) : Option (ByteArray × Int × Int) :=
  bnd (spec_l1Cur_pick a1 (fun k0 => a2 k0) a3 a4 a5) fun (⟨x10, x11, x12⟩ : Int × Int × Int) =>
  grd (std.isin x10 a5) <|
  some (a6 x10, x11, x12)
theorem spec_l1Cur_of_con (a1 : Int) (a2 : Int → Int) (a3 : Int) (a4 : Int) (a5 : Int) (a6 : Int → ByteArray) (r1 : ByteArray) (r2 : Int) (r3 : Int) (h0 : spec_l1Cur_of a1 a2 a3 a4 a5 a6 = some (r1, r2, r3)) : Con P G 114 (some (.box [.lst a1 (fun k0 => [.val (.int .u8 (a2 k0))]), .val (.int .i64 a3), .val (.int .u64 a4)])) [.lst a5 (fun k0 => [.val (.string (a6 k0))])] (.val (.string r1)) (some (.box [.lst a1 (fun k0 => [.val (.int .u8 (a2 k0))]), .val (.int .i64 r2), .val (.int .u64 r3)])) := by
  refine con_by tok mo Tryd.func114 rfl rfl (by (first | (rintro _ ⟨rfl⟩; simp; done) | (simp; done) | (intro _ hq; cases hq))) (by (first | (rintro _ _ ⟨rfl⟩ ⟨rfl⟩; rfl) | (simp; done))) ?_
  (rintro ⟨⟨add, sub, mul, quo, rem, neg, bits, shl, shr, lt, le, eq, beq, bnot, band, conv, imin, imax, slen, sat, ssub, scat, seq, slt, ofB, nadd, nsub, selI, selS, selB, selF, isin, cut, fits, nz, makes, cats, shok⟩, C, D, W, S, N⟩ hp; replace hp := AB.isReal hp)
  unfold spec_l1Cur_of at h0
  ((try rw [← hp.L] at h0); (try dsimp only at h0))
  (cbv; repeat (refine hp.N ?_; cbv))
  replace h0 := bnd_inv h0
  obtain ⟨⟨x10, x11, x12⟩, q1, h0⟩ := h0
  try dsimp only at h0
  (first | refine hp.D _ _ (spec_l1Cur_pick_con _ _ _ _ _ _ _ _ q1) rfl ?_ | refine .inr (hp.D _ _ (spec_l1Cur_pick_con _ _ _ _ _ _ _ _ q1) rfl ?_) | refine .inr ⟨by (first | trivial | exact rfl | exact ⟨rfl, rfl⟩ | exact ⟨rfl, trivial⟩ | exact ⟨trivial, rfl⟩ | (refine ⟨?_, ?_⟩ <;> first | trivial | exact rfl)), hp.D _ _ (spec_l1Cur_pick_con _ _ _ _ _ _ _ _ q1) rfl ?_⟩ | refine ⟨by (first | trivial | exact rfl | exact ⟨rfl, rfl⟩ | exact ⟨rfl, trivial⟩ | exact ⟨trivial, rfl⟩ | (refine ⟨?_, ?_⟩ <;> first | trivial | exact rfl)), hp.D _ _ (spec_l1Cur_pick_con _ _ _ _ _ _ _ _ q1) rfl ?_⟩)
  (cbv; repeat (refine hp.N ?_; cbv))
  replace h0 := grd_inv h0
  obtain ⟨p2, h0⟩ := h0
  refine ⟨by (first | exact p2 | exact ⟨rfl, p2⟩ | exact ⟨p2, trivial⟩ | exact ⟨rfl, p2, trivial⟩ | exact ⟨p2, fun _ _ => rfl⟩ | exact ⟨rfl, fun _ _ => rfl, p2⟩ | exact ⟨fun _ _ => rfl, p2⟩ | exact ⟨rfl, rfl, p2⟩ | trivial | exact rfl | exact ⟨rfl, trivial⟩ | exact ⟨rfl, rfl⟩), ?_⟩
  (repeat (refine hp.N ?_; cbv))
  simp only [Option.some.injEq, Prod.mk.injEq] at h0
  obtain ⟨rfl, rfl, rfl⟩ := h0
  (repeat' (first | trivial | exact AB.sub_refl _ | exact AB.sub_any _ | exact rfl | exact AB.cells_eq (fun _ _ _ => rfl) | exact AB.sub_lst rfl (fun _ _ _ => rfl) | exact AB.sub_nil _ | (refine AB.sub_lst rfl ?_; intro i h0 h1; exact absurd (Int.lt_of_le_of_lt h0 h1) (by decide)) | (intro hq; exact absurd hq (by decide)) | exact AB.subLn | refine AB.subLc ?_ ?_ | refine AB.sub_agg ?_ | (refine AB.sub_lst' ?_; intro _ _ _) | exact (fun _ => AB.own_val _ _ (fun _ => rfl)) | (intro i h0 h1; exact absurd (Int.lt_of_le_of_lt h0 h1) (by decide)) | refine ⟨?_, ?_⟩))
end S
end
section
open Go AB
namespace S
open Go.Proofs
variable {G : GI} [Env G]
set_option maxRecDepth 1000000
set_option linter.unusedVariables false
set_option maxHeartbeats 4000000
/-- (*loop.example/g01248/spec.l1Cur).any1 -/
noncomputable def spec_l1Cur_any1 (a1 : Int) (a2 : Int → Int) (a3 : Int) (a4 : Int) : Option (ByteArray × Int × Int) :=
  bnd (spec_l1Cur_of a1 (fun k0 => a2 k0) a3 a4 9 (fun k0 => std.selS (std.eq k0 0) ⟨#[]⟩ (std.selS (std.eq k0 1) ⟨#[97]⟩ (std.selS (std.eq k0 2) ⟨#[97, 44, 98]⟩ (std.selS (std.eq k0 3) ⟨#[115, 111, 109, 101, 32, 119, 111, 114, 100, 115]⟩ (std.selS (std.eq k0 4) ⟨#[120, 35, 121]⟩ (std.selS (std.eq k0 5) ⟨#[45, 49, 50]⟩ (std.selS (std.eq k0 6) ⟨#[0, 255]⟩ (std.selS (std.eq k0 7) ⟨#[44, 44]⟩ ⟨#[48]⟩))))))))) fun (⟨x8, x9, x10⟩ : ByteArray × Int × Int) =>
  some (x8, x9, x10)
theorem spec_l1Cur_any1_con (a1 : Int) (a2 : Int → Int) (a3 : Int) (a4 : Int) (r1 : ByteArray) (r2 : Int) (r3 : Int) (h0 : spec_l1Cur_any1 a1 a2 a3 a4 = some (r1, r2, r3)) : Con P G 130 (some (.box [.lst a1 (fun k0 => [.val (.int .u8 (a2 k0))]), .val (.int .i64 a3), .val (.int .u64 a4)])) [] (.val (.string r1)) (some (.box [.lst a1 (fun k0 => [.val (.int .u8 (a2 k0))]), .val (.int .i64 r2), .val (.int .u64 r3)])) := by
  refine con_by tok mo Tryd.func130 rfl rfl (by (first | (rintro _ ⟨rfl⟩; simp; done) | (simp; done) | (intro _ hq; cases hq))) (by (first | (rintro _ _ ⟨rfl⟩ ⟨rfl⟩; rfl) | (simp; done))) ?_
  (rintro ⟨⟨add, sub, mul, quo, rem, neg, bits, shl, shr, lt, le, eq, beq, bnot, band, conv, imin, imax, slen, sat, ssub, scat, seq, slt, ofB, nadd, nsub, selI, selS, selB, selF, isin, cut, fits, nz, makes, cats, shok⟩, C, D, W, S, N⟩ hp; replace hp := AB.isReal hp)
  unfold spec_l1Cur_any1 at h0
  ((try rw [← hp.L] at h0); (try dsimp only at h0))
  (cbv; repeat (refine hp.N ?_; cbv))
  replace h0 := bnd_inv h0
  obtain ⟨⟨x8, x9, x10⟩, q1, h0⟩ := h0
  try dsimp only at h0
  (first | refine hp.D _ _ (spec_l1Cur_of_con _ _ _ _ _ _ _ _ _ q1) rfl ?_ | refine .inr (hp.D _ _ (spec_l1Cur_of_con _ _ _ _ _ _ _ _ _ q1) rfl ?_) | refine .inr ⟨by (first | trivial | exact rfl | exact ⟨rfl, rfl⟩ | exact ⟨rfl, trivial⟩ | exact ⟨trivial, rfl⟩ | (refine ⟨?_, ?_⟩ <;> first | trivial | exact rfl)), hp.D _ _ (spec_l1Cur_of_con _ _ _ _ _ _ _ _ _ q1) rfl ?_⟩ | refine ⟨by (first | trivial | exact rfl | exact ⟨rfl, rfl⟩ | exact ⟨rfl, trivial⟩ | exact ⟨trivial, rfl⟩ | (refine ⟨?_, ?_⟩ <;> first | trivial | exact rfl)), hp.D _ _ (spec_l1Cur_of_con _ _ _ _ _ _ _ _ _ q1) rfl ?_⟩)
  (cbv; repeat (refine hp.N ?_; cbv))
  simp only [Option.some.injEq, Prod.mk.injEq] at h0
  obtain ⟨rfl, rfl, rfl⟩ := h0
  (repeat' (first | trivial | exact AB.sub_refl _ | exact AB.sub_any _ | exact rfl | exact AB.cells_eq (fun _ _ _ => rfl) | exact AB.sub_lst rfl (fun _ _ _ => rfl) | exact AB.sub_nil _ | (refine AB.sub_lst rfl ?_; intro i h0 h1; exact absurd (Int.lt_of_le_of_lt h0 h1) (by decide)) | (intro hq; exact absurd hq (by decide)) | exact AB.subLn | refine AB.subLc ?_ ?_ | refine AB.sub_agg ?_ | (refine AB.sub_lst' ?_; intro _ _ _) | exact (fun _ => AB.own_val _ _ (fun _ => rfl)) | (intro i h0 h1; exact absurd (Int.lt_of_le_of_lt h0 h1) (by decide)) | refine ⟨?_, ?_⟩))
end S
end
section
open Go AB
namespace S
open Go.Proofs
variable {G : GI} [Env G]
set_option maxRecDepth 1000000
set_option linter.unusedVariables false
set_option maxHeartbeats 4000000
/-- (*loop.example/g01248/spec.l1Cur).one -/
noncomputable def spec_l1Cur_one (a1 : Int) (a2 : Int → Int) (a3 : Int) (a4 : Int) (a5 : Int) : Option (Bool × Int × Int) :=
  bnd (spec_l1Cur_pick a1 (fun k0 => a2 k0) a3 a4 a5) fun (⟨x9, x10, x11⟩ : Int × Int × Int) =>
  some (std.eq x9 0, x10, x11)
theorem spec_l1Cur_one_con (a1 : Int) (a2 : Int → Int) (a3 : Int) (a4 : Int) (a5 : Int) (r1 : Bool) (r2 : Int) (r3 : Int) (h0 : spec_l1Cur_one a1 a2 a3 a4 a5 = some (r1, r2, r3)) : Con P G 113 (some (.box [.lst a1 (fun k0 => [.val (.int .u8 (a2 k0))]), .val (.int .i64 a3), .val (.int .u64 a4)])) [.val (.int .i64 a5)] (.val (.bool r1)) (some (.box [.lst a1 (fun k0 => [.val (.int .u8 (a2 k0))]), .val (.int .i64 r2), .val (.int .u64 r3)])) := by
  refine con_by tok mo Tryd.func113 rfl rfl (by (first | (rintro _ ⟨rfl⟩; simp; done) | (simp; done) | (intro _ hq; cases hq))) (by (first | (rintro _ _ ⟨rfl⟩ ⟨rfl⟩; rfl) | (simp; done))) ?_
  (rintro ⟨⟨add, sub, mul, quo, rem, neg, bits, shl, shr, lt, le, eq, beq, bnot, band, conv, imin, imax, slen, sat, ssub, scat, seq, slt, ofB, nadd, nsub, selI, selS, selB, selF, isin, cut, fits, nz, makes, cats, shok⟩, C, D, W, S, N⟩ hp; replace hp := AB.isReal hp)
  unfold spec_l1Cur_one at h0
  ((try rw [← hp.L] at h0); (try dsimp only at h0))
  (cbv; repeat (refine hp.N ?_; cbv))
  replace h0 := bnd_inv h0
  obtain ⟨⟨x9, x10, x11⟩, q1, h0⟩ := h0
  try dsimp only at h0
  (first | refine hp.D _ _ (spec_l1Cur_pick_con _ _ _ _ _ _ _ _ q1) rfl ?_ | refine .inr (hp.D _ _ (spec_l1Cur_pick_con _ _ _ _ _ _ _ _ q1) rfl ?_) | refine .inr ⟨by (first | trivial | exact rfl | exact ⟨rfl, rfl⟩ | exact ⟨rfl, trivial⟩ | exact ⟨trivial, rfl⟩ | (refine ⟨?_, ?_⟩ <;> first | trivial | exact rfl)), hp.D _ _ (spec_l1Cur_pick_con _ _ _ _ _ _ _ _ q1) rfl ?_⟩ | refine ⟨by (first | trivial | exact rfl | exact ⟨rfl, rfl⟩ | exact ⟨rfl, trivial⟩ | exact ⟨trivial, rfl⟩ | (refine ⟨?_, ?_⟩ <;> first | trivial | exact rfl)), hp.D _ _ (spec_l1Cur_pick_con _ _ _ _ _ _ _ _ q1) rfl ?_⟩)
  (cbv; repeat (refine hp.N ?_; cbv))
  simp only [Option.some.injEq, Prod.mk.injEq] at h0
  obtain ⟨rfl, rfl, rfl⟩ := h0
  (repeat' (first | trivial | exact AB.sub_refl _ | exact AB.sub_any _ | exact rfl | exact AB.cells_eq (fun _ _ _ => rfl) | exact AB.sub_lst rfl (fun _ _ _ => rfl) | exact AB.sub_nil _ | (refine AB.sub_lst rfl ?_; intro i h0 h1; exact absurd (Int.lt_of_le_of_lt h0 h1) (by decide)) | (intro hq; exact absurd hq (by decide)) | exact AB.subLn | refine AB.subLc ?_ ?_ | refine AB.sub_agg ?_ | (refine AB.sub_lst' ?_; intro _ _ _) | exact (fun _ => AB.own_val _ _ (fun _ => rfl)) | (intro i h0 h1; exact absurd (Int.lt_of_le_of_lt h0 h1) (by decide)) | refine ⟨?_, ?_⟩))
end S
end
section
open Go AB
namespace S
open Go.Proofs
variable {G : GI} [Env G]
set_option maxRecDepth 1000000
set_option linter.unusedVariables false
set_option maxHeartbeats 4000000
/-- loop.example/g01248/spec.DrawAppendChecksum -/
noncomputable def spec_DrawAppendChecksum (a1 : Int) (a2 : Int → Int) : Option ByteArray :=
  bnd (spec_l1Cur_one a1 (fun k0 => a2 k0) 0 0 20) fun (⟨x12, x13, x14⟩ : Bool × Int × Int) =>
  cnd (x12) (
    bnd (spec_l1Cur_pick a1 (fun k0 => a2 k0) x13 x14 10) fun (⟨x15, x16, x17⟩ : Int × Int × Int) =>
    grd (std.makes (std.add .i64 3990 x15) 1) <|
    grd (∀ k0, std.isin k0 (std.add .i64 3990 x15) → ∃ c : UInt8, (0 : Int) = (c.toNat : Int)) <|
    some (std.ofB (std.add .i64 3990 x15) (fun k0 => [.val (.int .u8 0)]))) (
    bnd (spec_l1Cur_any1 a1 (fun k0 => a2 k0) x13 x14) fun (⟨x18, x19, x20⟩ : ByteArray × Int × Int) =>
    some x18)
theorem spec_DrawAppendChecksum_con (a1 : Int) (a2 : Int → Int) (r1 : ByteArray) (h0 : spec_DrawAppendChecksum a1 a2 = some r1) : Con P G 38 none [.lst a1 (fun k0 => [.val (.int .u8 (a2 k0))])] (.val (.string r1)) none := by
  refine con_by tok mo Tryd.func38 rfl rfl (by (first | (rintro _ ⟨rfl⟩; simp; done) | (simp; done) | (intro _ hq; cases hq))) (by (first | (rintro _ _ ⟨rfl⟩ ⟨rfl⟩; rfl) | (simp; done))) ?_
  (rintro ⟨⟨add, sub, mul, quo, rem, neg, bits, shl, shr, lt, le, eq, beq, bnot, band, conv, imin, imax, slen, sat, ssub, scat, seq, slt, ofB, nadd, nsub, selI, selS, selB, selF, isin, cut, fits, nz, makes, cats, shok⟩, C, D, W, S, N⟩ hp; replace hp := AB.isReal hp)
  unfold spec_DrawAppendChecksum at h0
  ((try rw [← hp.L] at h0); (try dsimp only at h0))
  (cbv; repeat (refine hp.N ?_; cbv))
  replace h0 := bnd_inv h0
  obtain ⟨⟨x12, x13, x14⟩, q1, h0⟩ := h0
  try dsimp only at h0
  (first | refine hp.D _ _ (spec_l1Cur_one_con _ _ _ _ _ _ _ _ q1) rfl ?_ | refine .inr (hp.D _ _ (spec_l1Cur_one_con _ _ _ _ _ _ _ _ q1) rfl ?_) | refine .inr ⟨by (first | trivial | exact rfl | exact ⟨rfl, rfl⟩ | exact ⟨rfl, trivial⟩ | exact ⟨trivial, rfl⟩ | (refine ⟨?_, ?_⟩ <;> first | trivial | exact rfl)), hp.D _ _ (spec_l1Cur_one_con _ _ _ _ _ _ _ _ q1) rfl ?_⟩ | refine ⟨by (first | trivial | exact rfl | exact ⟨rfl, rfl⟩ | exact ⟨rfl, trivial⟩ | exact ⟨trivial, rfl⟩ | (refine ⟨?_, ?_⟩ <;> first | trivial | exact rfl)), hp.D _ _ (spec_l1Cur_one_con _ _ _ _ _ _ _ _ q1) rfl ?_⟩)
  (cbv; repeat (refine hp.N ?_; cbv))
  replace h0 := cnd_inv h0
  rcases h0 with ⟨c2, h0⟩ | ⟨c2, h0⟩
  · subst c2
    (cbv; repeat (refine hp.N ?_; cbv))
    replace h0 := bnd_inv h0
    obtain ⟨⟨x15, x16, x17⟩, q3, h0⟩ := h0
    try dsimp only at h0
    (first | refine hp.D _ _ (spec_l1Cur_pick_con _ _ _ _ _ _ _ _ q3) rfl ?_ | refine .inr (hp.D _ _ (spec_l1Cur_pick_con _ _ _ _ _ _ _ _ q3) rfl ?_) | refine .inr ⟨by (first | trivial | exact rfl | exact ⟨rfl, rfl⟩ | exact ⟨rfl, trivial⟩ | exact ⟨trivial, rfl⟩ | (refine ⟨?_, ?_⟩ <;> first | trivial | exact rfl)), hp.D _ _ (spec_l1Cur_pick_con _ _ _ _ _ _ _ _ q3) rfl ?_⟩ | refine ⟨by (first | trivial | exact rfl | exact ⟨rfl, rfl⟩ | exact ⟨rfl, trivial⟩ | exact ⟨trivial, rfl⟩ | (refine ⟨?_, ?_⟩ <;> first | trivial | exact rfl)), hp.D _ _ (spec_l1Cur_pick_con _ _ _ _ _ _ _ _ q3) rfl ?_⟩)
    (cbv; repeat (refine hp.N ?_; cbv))
    replace h0 := grd_inv h0
    obtain ⟨p4, h0⟩ := h0
    refine ⟨by (first | exact p4 | exact ⟨rfl, p4⟩ | exact ⟨p4, trivial⟩ | exact ⟨rfl, p4, trivial⟩ | exact ⟨p4, fun _ _ => rfl⟩ | exact ⟨rfl, fun _ _ => rfl, p4⟩ | exact ⟨fun _ _ => rfl, p4⟩ | exact ⟨rfl, rfl, p4⟩ | trivial | exact rfl | exact ⟨rfl, trivial⟩ | exact ⟨rfl, rfl⟩), ?_⟩
    (repeat (refine hp.N ?_; cbv))
    replace h0 := grd_inv h0
    obtain ⟨p5, h0⟩ := h0
    (first | refine ⟨fun i hi => (let ⟨c, hc⟩ := p5 i hi; ⟨c, congrArg (fun z => [AV.val (Value.int .u8 z)]) hc⟩), ?_⟩ | refine ⟨⟨rfl, fun i hi => (let ⟨c, hc⟩ := p5 i hi; ⟨c, congrArg (fun z => [AV.val (Value.int .u8 z)]) hc⟩)⟩, ?_⟩)
    (repeat (refine hp.N ?_; cbv))
    obtain rfl := Option.some.inj h0
    (repeat' (first | trivial | exact AB.sub_refl _ | exact AB.sub_any _ | exact rfl | exact AB.cells_eq (fun _ _ _ => rfl) | exact AB.sub_lst rfl (fun _ _ _ => rfl) | exact AB.sub_nil _ | (refine AB.sub_lst rfl ?_; intro i h0 h1; exact absurd (Int.lt_of_le_of_lt h0 h1) (by decide)) | (intro hq; exact absurd hq (by decide)) | exact AB.subLn | refine AB.subLc ?_ ?_ | refine AB.sub_agg ?_ | (refine AB.sub_lst' ?_; intro _ _ _) | exact (fun _ => AB.own_val _ _ (fun _ => rfl)) | (intro i h0 h1; exact absurd (Int.lt_of_le_of_lt h0 h1) (by decide)) | refine ⟨?_, ?_⟩))
  · subst c2
    (cbv; repeat (refine hp.N ?_; cbv))
    replace h0 := bnd_inv h0
    obtain ⟨⟨x18, x19, x20⟩, q6, h0⟩ := h0
    try dsimp only at h0
    (first | refine hp.D _ _ (spec_l1Cur_any1_con _ _ _ _ _ _ _ q6) rfl ?_ | refine .inr (hp.D _ _ (spec_l1Cur_any1_con _ _ _ _ _ _ _ q6) rfl ?_) | refine .inr ⟨by (first | trivial | exact rfl | exact ⟨rfl, rfl⟩ | exact ⟨rfl, trivial⟩ | exact ⟨trivial, rfl⟩ | (refine ⟨?_, ?_⟩ <;> first | trivial | exact rfl)), hp.D _ _ (spec_l1Cur_any1_con _ _ _ _ _ _ _ q6) rfl ?_⟩ | refine ⟨by (first | trivial | exact rfl | exact ⟨rfl, rfl⟩ | exact ⟨rfl, trivial⟩ | exact ⟨trivial, rfl⟩ | (refine ⟨?_, ?_⟩ <;> first | trivial | exact rfl)), hp.D _ _ (spec_l1Cur_any1_con _ _ _ _ _ _ _ q6) rfl ?_⟩)
    (cbv; repeat (refine hp.N ?_; cbv))
    obtain rfl := Option.some.inj h0
    (repeat' (first | trivial | exact AB.sub_refl _ | exact AB.sub_any _ | exact rfl | exact AB.cells_eq (fun _ _ _ => rfl) | exact AB.sub_lst rfl (fun _ _ _ => rfl) | exact AB.sub_nil _ | (refine AB.sub_lst rfl ?_; intro i h0 h1; exact absurd (Int.lt_of_le_of_lt h0 h1) (by decide)) | (intro hq; exact absurd hq (by decide)) | exact AB.subLn | refine AB.subLc ?_ ?_ | refine AB.sub_agg ?_ | (refine AB.sub_lst' ?_; intro _ _ _) | exact (fun _ => AB.own_val _ _ (fun _ => rfl)) | (intro i h0 h1; exact absurd (Int.lt_of_le_of_lt h0 h1) (by decide)) | refine ⟨?_, ?_⟩))
end S
end
section
open Go AB
namespace S
open Go.Proofs
variable {G : GI} [Env G]
set_option maxRecDepth 1000000
set_option linter.unusedVariables false
set_option maxHeartbeats 4000000
/-- (*loop.example/g01248/spec.l1Cur).among -/
noncomputable def spec_l1Cur_among (a1 : Int) (a2 : Int → Int) (a3 : Int) (a4 : Int) (a5 : Int) (a6 : Int → Int) : Option (Int × Int × Int) :=
  bnd (spec_l1Cur_pick a1 (fun k0 => a2 k0) a3 a4 a5) fun (⟨x10, x11, x12⟩ : Int × Int × Int) =>
  grd (std.isin x10 a5) <|
  some (a6 x10, x11, x12)
theorem spec_l1Cur_among_con (a1 : Int) (a2 : Int → Int) (a3 : Int) (a4 : Int) (a5 : Int) (a6 : Int → Int) (r1 : Int) (r2 : Int) (r3 : Int) (h0 : spec_l1Cur_among a1 a2 a3 a4 a5 a6 = some (r1, r2, r3)) : Con P G 123 (some (.box [.lst a1 (fun k0 => [.val (.int .u8 (a2 k0))]), .val (.int .i64 a3), .val (.int .u64 a4)])) [.lst a5 (fun k0 => [.val (.int .i64 (a6 k0))])] (.val (.int .i64 r1)) (some (.box [.lst a1 (fun k0 => [.val (.int .u8 (a2 k0))]), .val (.int .i64 r2), .val (.int .u64 r3)])) := by
  refine con_by tok mo Tryd.func123 rfl rfl (by (first | (rintro _ ⟨rfl⟩; simp; done) | (simp; done) | (intro _ hq; cases hq))) (by (first | (rintro _ _ ⟨rfl⟩ ⟨rfl⟩; rfl) | (simp; done))) ?_
  (rintro ⟨⟨add, sub, mul, quo, rem, neg, bits, shl, shr, lt, le, eq, beq, bnot, band, conv, imin, imax, slen, sat, ssub, scat, seq, slt, ofB, nadd, nsub, selI, selS, selB, selF, isin, cut, fits, nz, makes, cats, shok⟩, C, D, W, S, N⟩ hp; replace hp := AB.isReal hp)
  unfold spec_l1Cur_among at h0
  ((try rw [← hp.L] at h0); (try dsimp only at h0))
  (cbv; repeat (refine hp.N ?_; cbv))
  replace h0 := bnd_inv h0
  obtain ⟨⟨x10, x11, x12⟩, q1, h0⟩ := h0
  try dsimp only at h0
  (first | refine hp.D _ _ (spec_l1Cur_pick_con _ _ _ _ _ _ _ _ q1) rfl ?_ | refine .inr (hp.D _ _ (spec_l1Cur_pick_con _ _ _ _ _ _ _ _ q1) rfl ?_) | refine .inr ⟨by (first | trivial | exact rfl | exact ⟨rfl, rfl⟩ | exact ⟨rfl, trivial⟩ | exact ⟨trivial, rfl⟩ | (refine ⟨?_, ?_⟩ <;> first | trivial | exact rfl)), hp.D _ _ (spec_l1Cur_pick_con _ _ _ _ _ _ _ _ q1) rfl ?_⟩ | refine ⟨by (first | trivial | exact rfl | exact ⟨rfl, rfl⟩ | exact ⟨rfl, trivial⟩ | exact ⟨trivial, rfl⟩ | (refine ⟨?_, ?_⟩ <;> first | trivial | exact rfl)), hp.D _ _ (spec_l1Cur_pick_con _ _ _ _ _ _ _ _ q1) rfl ?_⟩)
  (cbv; repeat (refine hp.N ?_; cbv))
  replace h0 := grd_inv h0
  obtain ⟨p2, h0⟩ := h0
  refine ⟨by (first | exact p2 | exact ⟨rfl, p2⟩ | exact ⟨p2, trivial⟩ | exact ⟨rfl, p2, trivial⟩ | exact ⟨p2, fun _ _ => rfl⟩ | exact ⟨rfl, fun _ _ => rfl, p2⟩ | exact ⟨fun _ _ => rfl, p2⟩ | exact ⟨rfl, rfl, p2⟩ | trivial | exact rfl | exact ⟨rfl, trivial⟩ | exact ⟨rfl, rfl⟩), ?_⟩
  (repeat (refine hp.N ?_; cbv))
  simp only [Option.some.injEq, Prod.mk.injEq] at h0
  obtain ⟨rfl, rfl, rfl⟩ := h0
  (repeat' (first | trivial | exact AB.sub_refl _ | exact AB.sub_any _ | exact rfl | exact AB.cells_eq (fun _ _ _ => rfl) | exact AB.sub_lst rfl (fun _ _ _ => rfl) | exact AB.sub_nil _ | (refine AB.sub_lst rfl ?_; intro i h0 h1; exact absurd (Int.lt_of_le_of_lt h0 h1) (by decide)) | (intro hq; exact absurd hq (by decide)) | exact AB.subLn | refine AB.subLc ?_ ?_ | refine AB.sub_agg ?_ | (refine AB.sub_lst' ?_; intro _ _ _) | exact (fun _ => AB.own_val _ _ (fun _ => rfl)) | (intro i h0 h1; exact absurd (Int.lt_of_le_of_lt h0 h1) (by decide)) | refine ⟨?_, ?_⟩))
end S
end
section
open Go AB
namespace S
open Go.Proofs
variable {G : GI} [Env G]
set_option maxRecDepth 1000000
set_option linter.unusedVariables false
set_option maxHeartbeats 4000000
/-- loop.example/g01248/spec.DrawFormatInt -/
noncomputable def spec_DrawFormatInt (a1 : Int) (a2 : Int → Int) : Option Int :=
  bnd (spec_l1Cur_pick a1 (fun k0 => a2 k0) 0 0 1000) fun (⟨x9, x10, x11⟩ : Int × Int × Int) =>
  bnd (spec_l1Cur_among a1 (fun k0 => a2 k0) x10 x11 9 (fun k0 => std.selI (std.eq k0 0) 0 (std.selI (std.eq k0 1) 1 (std.selI (std.eq k0 2) (-1) (std.selI (std.eq k0 3) 10 (std.selI (std.eq k0 4) 999999 (std.selI (std.eq k0 5) (-999999) (std.selI (std.eq k0 6) 1000000 (std.selI (std.eq k0 7) (-1000000) (std.sub .i64 x9 500)))))))))) fun (⟨x12, x13, x14⟩ : Int × Int × Int) =>
  some x12
theorem spec_DrawFormatInt_con (a1 : Int) (a2 : Int → Int) (r1 : Int) (h0 : spec_DrawFormatInt a1 a2 = some r1) : Con P G 32 none [.lst a1 (fun k0 => [.val (.int .u8 (a2 k0))])] (.val (.int .i64 r1)) none := by
  refine con_by tok mo Tryd.func32 rfl rfl (by (first | (rintro _ ⟨rfl⟩; simp; done) | (simp; done) | (intro _ hq; cases hq))) (by (first | (rintro _ _ ⟨rfl⟩ ⟨rfl⟩; rfl) | (simp; done))) ?_
  (rintro ⟨⟨add, sub, mul, quo, rem, neg, bits, shl, shr, lt, le, eq, beq, bnot, band, conv, imin, imax, slen, sat, ssub, scat, seq, slt, ofB, nadd, nsub, selI, selS, selB, selF, isin, cut, fits, nz, makes, cats, shok⟩, C, D, W, S, N⟩ hp; replace hp := AB.isReal hp)
  unfold spec_DrawFormatInt at h0
  ((try rw [← hp.L] at h0); (try dsimp only at h0))
  (cbv; repeat (refine hp.N ?_; cbv))
  replace h0 := bnd_inv h0
  obtain ⟨⟨x9, x10, x11⟩, q1, h0⟩ := h0
  try dsimp only at h0
  (first | refine hp.D _ _ (spec_l1Cur_pick_con _ _ _ _ _ _ _ _ q1) rfl ?_ | refine .inr (hp.D _ _ (spec_l1Cur_pick_con _ _ _ _ _ _ _ _ q1) rfl ?_) | refine .inr ⟨by (first | trivial | exact rfl | exact ⟨rfl, rfl⟩ | exact ⟨rfl, trivial⟩ | exact ⟨trivial, rfl⟩ | (refine ⟨?_, ?_⟩ <;> first | trivial | exact rfl)), hp.D _ _ (spec_l1Cur_pick_con _ _ _ _ _ _ _ _ q1) rfl ?_⟩ | refine ⟨by (first | trivial | exact rfl | exact ⟨rfl, rfl⟩ | exact ⟨rfl, trivial⟩ | exact ⟨trivial, rfl⟩ | (refine ⟨?_, ?_⟩ <;> first | trivial | exact rfl)), hp.D _ _ (spec_l1Cur_pick_con _ _ _ _ _ _ _ _ q1) rfl ?_⟩)
  (cbv; repeat (refine hp.N ?_; cbv))
  replace h0 := bnd_inv h0
  obtain ⟨⟨x12, x13, x14⟩, q2, h0⟩ := h0
  try dsimp only at h0
  (first | refine hp.D _ _ (spec_l1Cur_among_con _ _ _ _ _ _ _ _ _ q2) rfl ?_ | refine .inr (hp.D _ _ (spec_l1Cur_among_con _ _ _ _ _ _ _ _ _ q2) rfl ?_) | refine .inr ⟨by (first | trivial | exact rfl | exact ⟨rfl, rfl⟩ | exact ⟨rfl, trivial⟩ | exact ⟨trivial, rfl⟩ | (refine ⟨?_, ?_⟩ <;> first | trivial | exact rfl)), hp.D _ _ (spec_l1Cur_among_con _ _ _ _ _ _ _ _ _ q2) rfl ?_⟩ | refine ⟨by (first | trivial | exact rfl | exact ⟨rfl, rfl⟩ | exact ⟨rfl, trivial⟩ | exact ⟨trivial, rfl⟩ | (refine ⟨?_, ?_⟩ <;> first | trivial | exact rfl)), hp.D _ _ (spec_l1Cur_among_con _ _ _ _ _ _ _ _ _ q2) rfl ?_⟩)
  (cbv; repeat (refine hp.N ?_; cbv))
  obtain rfl := Option.some.inj h0
  (repeat' (first | trivial | exact AB.sub_refl _ | exact AB.sub_any _ | exact rfl | exact AB.cells_eq (fun _ _ _ => rfl) | exact AB.sub_lst rfl (fun _ _ _ => rfl) | exact AB.sub_nil _ | (refine AB.sub_lst rfl ?_; intro i h0 h1; exact absurd (Int.lt_of_le_of_lt h0 h1) (by decide)) | (intro hq; exact absurd hq (by decide)) | exact AB.subLn | refine AB.subLc ?_ ?_ | refine AB.sub_agg ?_ | (refine AB.sub_lst' ?_; intro _ _ _) | exact (fun _ => AB.own_val _ _ (fun _ => rfl)) | (intro i h0 h1; exact absurd (Int.lt_of_le_of_lt h0 h1) (by decide)) | refine ⟨?_, ?_⟩))
end S
end
section
open Go AB
namespace S
open Go.Proofs
variable {G : GI} [Env G]
set_option maxRecDepth 1000000
set_option linter.unusedVariables false
set_option maxHeartbeats 4000000
/-- loop.example/g01248/spec.DrawParseInt -/
noncomputable def spec_DrawParseInt (K : Nat) (a1 : Int) (a2 : Int → Int) : Option ByteArray :=
  bnd (spec_l1Cur_one a1 (fun k0 => a2 k0) 0 0 2) fun (⟨x13, x14, x15⟩ : Bool × Int × Int) =>
  cnd (x13) (
    bnd (spec_l1Cur_of a1 (fun k0 => a2 k0) x14 x15 11 (fun k0 => std.selS (std.eq k0 0) ⟨#[]⟩ (std.selS (std.eq k0 1) ⟨#[45]⟩ (std.selS (std.eq k0 2) ⟨#[45, 48]⟩ (std.selS (std.eq k0 3) ⟨#[48, 48]⟩ (std.selS (std.eq k0 4) ⟨#[48, 49]⟩ (std.selS (std.eq k0 5) ⟨#[45, 45, 49]⟩ (std.selS (std.eq k0 6) ⟨#[49, 120]⟩ (std.selS (std.eq k0 7) ⟨#[57, 57, 57, 57, 57, 57]⟩ (std.selS (std.eq k0 8) ⟨#[49, 48, 48, 48, 48, 48, 48]⟩ (std.selS (std.eq k0 9) ⟨#[45, 57, 57, 57, 57, 57, 57]⟩ ⟨#[49, 56, 52, 52, 54, 55, 52, 52, 48, 55, 51, 55, 48, 57, 53, 53, 49, 54, 49, 55]⟩))))))))))) fun (⟨x16, x17, x18⟩ : ByteArray × Int × Int) =>
    some x16) (
    bnd (spec_l1Cur_pick a1 (fun k0 => a2 k0) x14 x15 2000) fun (⟨x19, x20, x21⟩ : Int × Int × Int) =>
    bnd (spec_l1Num K K (std.sub .i64 x19 1000)) fun (x22 : ByteArray) =>
    some x22)
theorem spec_DrawParseInt_con (K : Nat) (a1 : Int) (a2 : Int → Int) (r1 : ByteArray) (h0 : spec_DrawParseInt K a1 a2 = some r1) : Con P G 35 none [.lst a1 (fun k0 => [.val (.int .u8 (a2 k0))])] (.val (.string r1)) none := by
  refine con_by tok mo Tryd.func35 rfl rfl (by (first | (rintro _ ⟨rfl⟩; simp; done) | (simp; done) | (intro _ hq; cases hq))) (by (first | (rintro _ _ ⟨rfl⟩ ⟨rfl⟩; rfl) | (simp; done))) ?_
  (rintro ⟨⟨add, sub, mul, quo, rem, neg, bits, shl, shr, lt, le, eq, beq, bnot, band, conv, imin, imax, slen, sat, ssub, scat, seq, slt, ofB, nadd, nsub, selI, selS, selB, selF, isin, cut, fits, nz, makes, cats, shok⟩, C, D, W, S, N⟩ hp; replace hp := AB.isReal hp)
  unfold spec_DrawParseInt at h0
  ((try rw [← hp.L] at h0); (try dsimp only at h0))
  (cbv; repeat (refine hp.N ?_; cbv))
  replace h0 := bnd_inv h0
  obtain ⟨⟨x13, x14, x15⟩, q1, h0⟩ := h0
  try dsimp only at h0
  (first | refine hp.D _ _ (spec_l1Cur_one_con _ _ _ _ _ _ _ _ q1) rfl ?_ | refine .inr (hp.D _ _ (spec_l1Cur_one_con _ _ _ _ _ _ _ _ q1) rfl ?_) | refine .inr ⟨by (first | trivial | exact rfl | exact ⟨rfl, rfl⟩ | exact ⟨rfl, trivial⟩ | exact ⟨trivial, rfl⟩ | (refine ⟨?_, ?_⟩ <;> first | trivial | exact rfl)), hp.D _ _ (spec_l1Cur_one_con _ _ _ _ _ _ _ _ q1) rfl ?_⟩ | refine ⟨by (first | trivial | exact rfl | exact ⟨rfl, rfl⟩ | exact ⟨rfl, trivial⟩ | exact ⟨trivial, rfl⟩ | (refine ⟨?_, ?_⟩ <;> first | trivial | exact rfl)), hp.D _ _ (spec_l1Cur_one_con _ _ _ _ _ _ _ _ q1) rfl ?_⟩)
  (cbv; repeat (refine hp.N ?_; cbv))
  replace h0 := cnd_inv h0
  rcases h0 with ⟨c2, h0⟩ | ⟨c2, h0⟩
  · subst c2
    (cbv; repeat (refine hp.N ?_; cbv))
    replace h0 := bnd_inv h0
    obtain ⟨⟨x16, x17, x18⟩, q3, h0⟩ := h0
    try dsimp only at h0
    (first | refine hp.D _ _ (spec_l1Cur_of_con _ _ _ _ _ _ _ _ _ q3) rfl ?_ | refine .inr (hp.D _ _ (spec_l1Cur_of_con _ _ _ _ _ _ _ _ _ q3) rfl ?_) | refine .inr ⟨by (first | trivial | exact rfl | exact ⟨rfl, rfl⟩ | exact ⟨rfl, trivial⟩ | exact ⟨trivial, rfl⟩ | (refine ⟨?_, ?_⟩ <;> first | trivial | exact rfl)), hp.D _ _ (spec_l1Cur_of_con _ _ _ _ _ _ _ _ _ q3) rfl ?_⟩ | refine ⟨by (first | trivial | exact rfl | exact ⟨rfl, rfl⟩ | exact ⟨rfl, trivial⟩ | exact ⟨trivial, rfl⟩ | (refine ⟨?_, ?_⟩ <;> first | trivial | exact rfl)), hp.D _ _ (spec_l1Cur_of_con _ _ _ _ _ _ _ _ _ q3) rfl ?_⟩)
    (cbv; repeat (refine hp.N ?_; cbv))
    obtain rfl := Option.some.inj h0
    (repeat' (first | trivial | exact AB.sub_refl _ | exact AB.sub_any _ | exact rfl | exact AB.cells_eq (fun _ _ _ => rfl) | exact AB.sub_lst rfl (fun _ _ _ => rfl) | exact AB.sub_nil _ | (refine AB.sub_lst rfl ?_; intro i h0 h1; exact absurd (Int.lt_of_le_of_lt h0 h1) (by decide)) | (intro hq; exact absurd hq (by decide)) | exact AB.subLn | refine AB.subLc ?_ ?_ | refine AB.sub_agg ?_ | (refine AB.sub_lst' ?_; intro _ _ _) | exact (fun _ => AB.own_val _ _ (fun _ => rfl)) | (intro i h0 h1; exact absurd (Int.lt_of_le_of_lt h0 h1) (by decide)) | refine ⟨?_, ?_⟩))
  · subst c2
    (cbv; repeat (refine hp.N ?_; cbv))
    replace h0 := bnd_inv h0
    obtain ⟨⟨x19, x20, x21⟩, q4, h0⟩ := h0
    try dsimp only at h0
    (first | refine hp.D _ _ (spec_l1Cur_pick_con _ _ _ _ _ _ _ _ q4) rfl ?_ | refine .inr (hp.D _ _ (spec_l1Cur_pick_con _ _ _ _ _ _ _ _ q4) rfl ?_) | refine .inr ⟨by (first | trivial | exact rfl | exact ⟨rfl, rfl⟩ | exact ⟨rfl, trivial⟩ | exact ⟨trivial, rfl⟩ | (refine ⟨?_, ?_⟩ <;> first | trivial | exact rfl)), hp.D _ _ (spec_l1Cur_pick_con _ _ _ _ _ _ _ _ q4) rfl ?_⟩ | refine ⟨by (first | trivial | exact rfl | exact ⟨rfl, rfl⟩ | exact ⟨rfl, trivial⟩ | exact ⟨trivial, rfl⟩ | (refine ⟨?_, ?_⟩ <;> first | trivial | exact rfl)), hp.D _ _ (spec_l1Cur_pick_con _ _ _ _ _ _ _ _ q4) rfl ?_⟩)
    (cbv; repeat (refine hp.N ?_; cbv))
    replace h0 := bnd_inv h0
    obtain ⟨x22, q5, h0⟩ := h0
    (first | refine .inl (hp.C _ (spec_l1Num_con K K _ _ q5) ?_) | refine .inl ⟨by (first | trivial | exact rfl | exact ⟨rfl, rfl⟩ | exact ⟨rfl, trivial⟩ | exact ⟨trivial, rfl⟩ | (refine ⟨?_, ?_⟩ <;> first | trivial | exact rfl)), hp.C _ (spec_l1Num_con K K _ _ q5) ?_⟩ | refine hp.C _ (spec_l1Num_con K K _ _ q5) ?_)
    (cbv; repeat (refine hp.N ?_; cbv))
    obtain rfl := Option.some.inj h0
    (repeat' (first | trivial | exact AB.sub_refl _ | exact AB.sub_any _ | exact rfl | exact AB.cells_eq (fun _ _ _ => rfl) | exact AB.sub_lst rfl (fun _ _ _ => rfl) | exact AB.sub_nil _ | (refine AB.sub_lst rfl ?_; intro i h0 h1; exact absurd (Int.lt_of_le_of_lt h0 h1) (by decide)) | (intro hq; exact absurd hq (by decide)) | exact AB.subLn | refine AB.subLc ?_ ?_ | refine AB.sub_agg ?_ | (refine AB.sub_lst' ?_; intro _ _ _) | exact (fun _ => AB.own_val _ _ (fun _ => rfl)) | (intro i h0 h1; exact absurd (Int.lt_of_le_of_lt h0 h1) (by decide)) | refine ⟨?_, ?_⟩))
end S
end
section
open Go AB
namespace S
open Go.Proofs
variable {G : GI} [Env G]
set_option maxRecDepth 1000000
set_option linter.unusedVariables false
set_option maxHeartbeats 4000000
/-- loop.example/g01248/spec.l1In -/
noncomputable def spec_l1In (a1 : Int) (a2 : Int) (a3 : Int) : Option Bool :=
  cut (
    cnd (std.le a2 a1) (
      some (.inl (std.le a1 a3))) (
      some (.inl false))) fun (x5 : Bool) =>
  some x5
theorem spec_l1In_con (a1 : Int) (a2 : Int) (a3 : Int) (r1 : Bool) (h0 : spec_l1In a1 a2 a3 = some r1) : Con P G 126 none [.val (.int .i64 a1), .val (.int .i64 a2), .val (.int .i64 a3)] (.val (.bool r1)) none := by
  refine con_by tok mo Tryd.func126 rfl rfl (by (first | (rintro _ ⟨rfl⟩; simp; done) | (simp; done) | (intro _ hq; cases hq))) (by (first | (rintro _ _ ⟨rfl⟩ ⟨rfl⟩; rfl) | (simp; done))) ?_
  (rintro ⟨⟨add, sub, mul, quo, rem, neg, bits, shl, shr, lt, le, eq, beq, bnot, band, conv, imin, imax, slen, sat, ssub, scat, seq, slt, ofB, nadd, nsub, selI, selS, selB, selF, isin, cut, fits, nz, makes, cats, shok⟩, C, D, W, S, N⟩ hp; replace hp := AB.isReal hp)
  unfold spec_l1In at h0
  ((try rw [← hp.L] at h0); (try dsimp only at h0))
  (cbv; repeat (refine hp.N ?_; cbv))
  replace h0 := cut_inv h0
  obtain ⟨o1, h1, g1⟩ := h0
  refine hp.S (Bool) (fun y => o1 = .inl y) (fun x5 σ => ⟨frS [(0, .any), (1, .any), (2, .any), (6, .val (.bool x5))] 7 0 σ.s, []⟩) ?_ ?_
  · (cbv; repeat (refine hp.N ?_; cbv))
    replace h1 := cnd_inv h1
    rcases h1 with ⟨c1, h1⟩ | ⟨c1, h1⟩
    · rw [c1]
      (cbv; repeat (refine hp.N ?_; cbv))
      refine ⟨_, end_eq h1, [], ?_⟩
      (cbv; repeat (refine hp.N ?_; cbv))
      (repeat' (first | trivial | exact AB.sub_refl _ | exact AB.sub_any _ | exact rfl | exact AB.cells_eq (fun _ _ _ => rfl) | exact AB.sub_lst rfl (fun _ _ _ => rfl) | exact AB.sub_nil _ | (refine AB.sub_lst rfl ?_; intro i h0 h1; exact absurd (Int.lt_of_le_of_lt h0 h1) (by decide)) | (intro hq; exact absurd hq (by decide)) | exact AB.subLn | refine AB.subLc ?_ ?_ | refine AB.sub_agg ?_ | (refine AB.sub_lst' ?_; intro _ _ _) | exact (fun _ => AB.own_val _ _ (fun _ => rfl)) | (intro i h0 h1; exact absurd (Int.lt_of_le_of_lt h0 h1) (by decide)) | refine ⟨?_, ?_⟩))
    · rw [c1]
      (cbv; repeat (refine hp.N ?_; cbv))
      refine ⟨_, end_eq h1, [], ?_⟩
      (cbv; repeat (refine hp.N ?_; cbv))
      (repeat' (first | trivial | exact AB.sub_refl _ | exact AB.sub_any _ | exact rfl | exact AB.cells_eq (fun _ _ _ => rfl) | exact AB.sub_lst rfl (fun _ _ _ => rfl) | exact AB.sub_nil _ | (refine AB.sub_lst rfl ?_; intro i h0 h1; exact absurd (Int.lt_of_le_of_lt h0 h1) (by decide)) | (intro hq; exact absurd hq (by decide)) | exact AB.subLn | refine AB.subLc ?_ ?_ | refine AB.sub_agg ?_ | (refine AB.sub_lst' ?_; intro _ _ _) | exact (fun _ => AB.own_val _ _ (fun _ => rfl)) | (intro i h0 h1; exact absurd (Int.lt_of_le_of_lt h0 h1) (by decide)) | refine ⟨?_, ?_⟩))
  · rintro x5 ho
    subst ho
    replace h0 := g1
    clear h1 g1
    try dsimp only [cutO] at h0
    (cbv; repeat (refine hp.N ?_; cbv))
    obtain rfl := Option.some.inj h0
    (repeat' (first | trivial | exact AB.sub_refl _ | exact AB.sub_any _ | exact rfl | exact AB.cells_eq (fun _ _ _ => rfl) | exact AB.sub_lst rfl (fun _ _ _ => rfl) | exact AB.sub_nil _ | (refine AB.sub_lst rfl ?_; intro i h0 h1; exact absurd (Int.lt_of_le_of_lt h0 h1) (by decide)) | (intro hq; exact absurd hq (by decide)) | exact AB.subLn | refine AB.subLc ?_ ?_ | refine AB.sub_agg ?_ | (refine AB.sub_lst' ?_; intro _ _ _) | exact (fun _ => AB.own_val _ _ (fun _ => rfl)) | (intro i h0 h1; exact absurd (Int.lt_of_le_of_lt h0 h1) (by decide)) | refine ⟨?_, ?_⟩))
end S
end
section
open Go AB
namespace S
open Go.Proofs
variable {G : GI} [Env G]
set_option maxRecDepth 1000000
set_option linter.unusedVariables false
set_option maxHeartbeats 4000000
/-- loop.example/g01248/spec.FormatInt -/
noncomputable def spec_FormatInt (K : Nat) (a1 : Int) : Option (ByteArray × Bool) :=
  bnd (spec_l1In a1 (-999999) 999999) fun (x4 : Bool) =>
  cnd (std.bnot x4) (
    some (⟨#[]⟩, false)) (
    bnd (spec_l1Num K K a1) fun (x5 : ByteArray) =>
    some (x5, true))
theorem spec_FormatInt_con (K : Nat) (a1 : Int) (r1 : ByteArray) (r2 : Bool) (h0 : spec_FormatInt K a1 = some (r1, r2)) : Con P G 34 none [.val (.int .i64 a1)] (.tup [.val (.string r1), .val (.bool r2)]) none := by
  refine con_by tok mo Tryd.func34 rfl rfl (by (first | (rintro _ ⟨rfl⟩; simp; done) | (simp; done) | (intro _ hq; cases hq))) (by (first | (rintro _ _ ⟨rfl⟩ ⟨rfl⟩; rfl) | (simp; done))) ?_
  (rintro ⟨⟨add, sub, mul, quo, rem, neg, bits, shl, shr, lt, le, eq, beq, bnot, band, conv, imin, imax, slen, sat, ssub, scat, seq, slt, ofB, nadd, nsub, selI, selS, selB, selF, isin, cut, fits, nz, makes, cats, shok⟩, C, D, W, S, N⟩ hp; replace hp := AB.isReal hp)
  unfold spec_FormatInt at h0
  ((try rw [← hp.L] at h0); (try dsimp only at h0))
  (cbv; repeat (refine hp.N ?_; cbv))
  replace h0 := bnd_inv h0
  obtain ⟨x4, q1, h0⟩ := h0
  (first | refine .inl (hp.C _ (spec_l1In_con _ _ _ _ q1) ?_) | refine .inl ⟨by (first | trivial | exact rfl | exact ⟨rfl, rfl⟩ | exact ⟨rfl, trivial⟩ | exact ⟨trivial, rfl⟩ | (refine ⟨?_, ?_⟩ <;> first | trivial | exact rfl)), hp.C _ (spec_l1In_con _ _ _ _ q1) ?_⟩ | refine hp.C _ (spec_l1In_con _ _ _ _ q1) ?_)
  (cbv; repeat (refine hp.N ?_; cbv))
  replace h0 := cnd_inv h0
  rcases h0 with ⟨c2, h0⟩ | ⟨c2, h0⟩
  · rw [c2]
    (cbv; repeat (refine hp.N ?_; cbv))
    simp only [Option.some.injEq, Prod.mk.injEq] at h0
    obtain ⟨rfl, rfl⟩ := h0
    (repeat' (first | trivial | exact AB.sub_refl _ | exact AB.sub_any _ | exact rfl | exact AB.cells_eq (fun _ _ _ => rfl) | exact AB.sub_lst rfl (fun _ _ _ => rfl) | exact AB.sub_nil _ | (refine AB.sub_lst rfl ?_; intro i h0 h1; exact absurd (Int.lt_of_le_of_lt h0 h1) (by decide)) | (intro hq; exact absurd hq (by decide)) | exact AB.subLn | refine AB.subLc ?_ ?_ | refine AB.sub_agg ?_ | (refine AB.sub_lst' ?_; intro _ _ _) | exact (fun _ => AB.own_val _ _ (fun _ => rfl)) | (intro i h0 h1; exact absurd (Int.lt_of_le_of_lt h0 h1) (by decide)) | refine ⟨?_, ?_⟩))
  · rw [c2]
    (cbv; repeat (refine hp.N ?_; cbv))
    replace h0 := bnd_inv h0
    obtain ⟨x5, q3, h0⟩ := h0
    (first | refine .inl (hp.C _ (spec_l1Num_con K K _ _ q3) ?_) | refine .inl ⟨by (first | trivial | exact rfl | exact ⟨rfl, rfl⟩ | exact ⟨rfl, trivial⟩ | exact ⟨trivial, rfl⟩ | (refine ⟨?_, ?_⟩ <;> first | trivial | exact rfl)), hp.C _ (spec_l1Num_con K K _ _ q3) ?_⟩ | refine hp.C _ (spec_l1Num_con K K _ _ q3) ?_)
    (cbv; repeat (refine hp.N ?_; cbv))
    simp only [Option.some.injEq, Prod.mk.injEq] at h0
    obtain ⟨rfl, rfl⟩ := h0
    (repeat' (first | trivial | exact AB.sub_refl _ | exact AB.sub_any _ | exact rfl | exact AB.cells_eq (fun _ _ _ => rfl) | exact AB.sub_lst rfl (fun _ _ _ => rfl) | exact AB.sub_nil _ | (refine AB.sub_lst rfl ?_; intro i h0 h1; exact absurd (Int.lt_of_le_of_lt h0 h1) (by decide)) | (intro hq; exact absurd hq (by decide)) | exact AB.subLn | refine AB.subLc ?_ ?_ | refine AB.sub_agg ?_ | (refine AB.sub_lst' ?_; intro _ _ _) | exact (fun _ => AB.own_val _ _ (fun _ => rfl)) | (intro i h0 h1; exact absurd (Int.lt_of_le_of_lt h0 h1) (by decide)) | refine ⟨?_, ?_⟩))
end S
end
section
open Go AB
namespace S
open Go.Proofs
variable {G : GI} [Env G]
set_option maxRecDepth 1000000
set_option linter.unusedVariables false
set_option maxHeartbeats 4000000
/-- loop.example/g01248/spec.l1Read -/
noncomputable def spec_l1Read_s2 (x24 : ByteArray) : (Int × Int) → Option ((Int × Int) ⊕ ((Int) ⊕ (Int × Bool)))
  | (x39, x40) =>
  cnd (std.lt x40 (std.slen x24)) (
    cut (
      grd (std.isin x40 (std.slen x24)) <|
      cnd (std.lt (std.sat x24 x40) 48) (
        some (.inl true)) (
        grd (std.isin x40 (std.slen x24)) <|
        some (.inl (std.lt 57 (std.sat x24 x40))))) fun (x41 : Bool) =>
    cnd (x41) (
      out (
        out (
          some (0, false)))) (
      grd (std.isin x40 (std.slen x24)) <|
      some (.inl (std.add .i64 (std.mul .i64 10 x39) (std.conv .i64 (std.sub .u8 (std.sat x24 x40) 48)), std.add .i64 x40 1)))) (
    out (
      some (.inl x39)))
noncomputable def spec_l1Read (K : Nat) (a1 : ByteArray) : Option (Int × Bool) :=
  cut (
    cut (
      cnd (std.lt 1 (std.slen a1)) (
        grd (std.isin 0 (std.slen a1)) <|
        some (.inl (std.eq (std.sat a1 0) 45))) (
        some (.inl false))) fun (x25 : Bool) =>
    cnd (x25) (
      grd (std.cut 1 (std.slen a1) (std.slen a1)) <|
      some (.inl (std.ssub a1 1 (std.slen a1)))) (
      some (.inl a1))) fun (x24 : ByteArray) =>
  bnd (spec_l1In (std.slen x24) 1 6) fun (x26 : Bool) =>
  cnd (std.bnot x26) (
    some (0, false)) (
    cut (
      loopF (spec_l1Read_s2 x24) K ((0, 0) : Int × Int)) fun (x34 : Int) =>
    cut (
      cnd (std.lt (std.slen x24) (std.slen a1)) (
        some (.inl (std.neg .i64 x34))) (
        some (.inl x34))) fun (x42 : Int) =>
    bnd (spec_l1Num K K x42) fun (x43 : ByteArray) =>
    cnd (std.bnot (std.seq x43 a1)) (
      some (0, false)) (
      some (x42, true)))
theorem spec_l1Read_con (K : Nat) (a1 : ByteArray) (r1 : Int) (r2 : Bool) (h0 : spec_l1Read K a1 = some (r1, r2)) : Con P G 129 none [.val (.string a1)] (.tup [.val (.int .i64 r1), .val (.bool r2)]) none := by
  refine con_by tok mo Tryd.func129 rfl rfl (by (first | (rintro _ ⟨rfl⟩; simp; done) | (simp; done) | (intro _ hq; cases hq))) (by (first | (rintro _ _ ⟨rfl⟩ ⟨rfl⟩; rfl) | (simp; done))) ?_
  (rintro ⟨⟨add, sub, mul, quo, rem, neg, bits, shl, shr, lt, le, eq, beq, bnot, band, conv, imin, imax, slen, sat, ssub, scat, seq, slt, ofB, nadd, nsub, selI, selS, selB, selF, isin, cut, fits, nz, makes, cats, shok⟩, C, D, W, S, N⟩ hp; replace hp := AB.isReal hp)
  unfold spec_l1Read at h0
  ((try rw [← hp.L] at h0); (try dsimp only at h0))
  (cbv; repeat (refine hp.N ?_; cbv))
  replace h0 := cut_inv h0
  obtain ⟨o1, h1, g1⟩ := h0
  refine hp.S (ByteArray) (fun y => o1 = .inl y) (fun x24 σ => ⟨frS [(2, .any), (3, .any), (4, .val (.string x24))] 5 0 σ.s, []⟩) ?_ ?_
  · (cbv; repeat (refine hp.N ?_; cbv))
    replace h1 := cut_inv h1
    obtain ⟨o2, h2, g2⟩ := h1
    refine hp.S (Bool) (fun y => o2 = .inl y) (fun x25 σ => ⟨frS [(2, .any), (3, .any), (7, .any), (15, .val (.bool x25))] 16 0 σ.s, []⟩) ?_ ?_
    · (cbv; repeat (refine hp.N ?_; cbv))
      replace h2 := cnd_inv h2
      rcases h2 with ⟨c1, h2⟩ | ⟨c1, h2⟩
      · rw [c1]
        (cbv; repeat (refine hp.N ?_; cbv))
        replace h2 := grd_inv h2
        obtain ⟨p2, h2⟩ := h2
        refine ⟨by (first | exact p2 | exact ⟨rfl, p2⟩ | exact ⟨p2, trivial⟩ | exact ⟨rfl, p2, trivial⟩ | exact ⟨p2, fun _ _ => rfl⟩ | exact ⟨rfl, fun _ _ => rfl, p2⟩ | exact ⟨fun _ _ => rfl, p2⟩ | exact ⟨rfl, rfl, p2⟩ | trivial | exact rfl | exact ⟨rfl, trivial⟩ | exact ⟨rfl, rfl⟩), ?_⟩
        (repeat (refine hp.N ?_; cbv))
        refine ⟨_, end_eq h2, [], ?_⟩
        (cbv; repeat (refine hp.N ?_; cbv))
        (repeat' (first | trivial | exact AB.sub_refl _ | exact AB.sub_any _ | exact rfl | exact AB.cells_eq (fun _ _ _ => rfl) | exact AB.sub_lst rfl (fun _ _ _ => rfl) | exact AB.sub_nil _ | (refine AB.sub_lst rfl ?_; intro i h0 h1; exact absurd (Int.lt_of_le_of_lt h0 h1) (by decide)) | (intro hq; exact absurd hq (by decide)) | exact AB.subLn | refine AB.subLc ?_ ?_ | refine AB.sub_agg ?_ | (refine AB.sub_lst' ?_; intro _ _ _) | exact (fun _ => AB.own_val _ _ (fun _ => rfl)) | (intro i h0 h1; exact absurd (Int.lt_of_le_of_lt h0 h1) (by decide)) | refine ⟨?_, ?_⟩))
      · rw [c1]
        (cbv; repeat (refine hp.N ?_; cbv))
        refine ⟨_, end_eq h2, [], ?_⟩
        (cbv; repeat (refine hp.N ?_; cbv))
        (repeat' (first | trivial | exact AB.sub_refl _ | exact AB.sub_any _ | exact rfl | exact AB.cells_eq (fun _ _ _ => rfl) | exact AB.sub_lst rfl (fun _ _ _ => rfl) | exact AB.sub_nil _ | (refine AB.sub_lst rfl ?_; intro i h0 h1; exact absurd (Int.lt_of_le_of_lt h0 h1) (by decide)) | (intro hq; exact absurd hq (by decide)) | exact AB.subLn | refine AB.subLc ?_ ?_ | refine AB.sub_agg ?_ | (refine AB.sub_lst' ?_; intro _ _ _) | exact (fun _ => AB.own_val _ _ (fun _ => rfl)) | (intro i h0 h1; exact absurd (Int.lt_of_le_of_lt h0 h1) (by decide)) | refine ⟨?_, ?_⟩))
    · rintro x25 ho
      subst ho
      replace h1 := g2
      clear h2 g2
      try dsimp only [cutO] at h1
      (cbv; repeat (refine hp.N ?_; cbv))
      replace h1 := cnd_inv h1
      rcases h1 with ⟨c3, h1⟩ | ⟨c3, h1⟩
      · subst c3
        (cbv; repeat (refine hp.N ?_; cbv))
        replace h1 := grd_inv h1
        obtain ⟨p4, h1⟩ := h1
        refine ⟨by (first | exact p4 | exact ⟨rfl, p4⟩ | exact ⟨p4, trivial⟩ | exact ⟨rfl, p4, trivial⟩ | exact ⟨p4, fun _ _ => rfl⟩ | exact ⟨rfl, fun _ _ => rfl, p4⟩ | exact ⟨fun _ _ => rfl, p4⟩ | exact ⟨rfl, rfl, p4⟩ | trivial | exact rfl | exact ⟨rfl, trivial⟩ | exact ⟨rfl, rfl⟩), ?_⟩
        (repeat (refine hp.N ?_; cbv))
        refine ⟨_, end_eq h1, [], ?_⟩
        (cbv; repeat (refine hp.N ?_; cbv))
        (repeat' (first | trivial | exact AB.sub_refl _ | exact AB.sub_any _ | exact rfl | exact AB.cells_eq (fun _ _ _ => rfl) | exact AB.sub_lst rfl (fun _ _ _ => rfl) | exact AB.sub_nil _ | (refine AB.sub_lst rfl ?_; intro i h0 h1; exact absurd (Int.lt_of_le_of_lt h0 h1) (by decide)) | (intro hq; exact absurd hq (by decide)) | exact AB.subLn | refine AB.subLc ?_ ?_ | refine AB.sub_agg ?_ | (refine AB.sub_lst' ?_; intro _ _ _) | exact (fun _ => AB.own_val _ _ (fun _ => rfl)) | (intro i h0 h1; exact absurd (Int.lt_of_le_of_lt h0 h1) (by decide)) | refine ⟨?_, ?_⟩))
      · subst c3
        (cbv; repeat (refine hp.N ?_; cbv))
        refine ⟨_, end_eq h1, [], ?_⟩
        (cbv; repeat (refine hp.N ?_; cbv))
        (repeat' (first | trivial | exact AB.sub_refl _ | exact AB.sub_any _ | exact rfl | exact AB.cells_eq (fun _ _ _ => rfl) | exact AB.sub_lst rfl (fun _ _ _ => rfl) | exact AB.sub_nil _ | (refine AB.sub_lst rfl ?_; intro i h0 h1; exact absurd (Int.lt_of_le_of_lt h0 h1) (by decide)) | (intro hq; exact absurd hq (by decide)) | exact AB.subLn | refine AB.subLc ?_ ?_ | refine AB.sub_agg ?_ | (refine AB.sub_lst' ?_; intro _ _ _) | exact (fun _ => AB.own_val _ _ (fun _ => rfl)) | (intro i h0 h1; exact absurd (Int.lt_of_le_of_lt h0 h1) (by decide)) | refine ⟨?_, ?_⟩))
  · rintro x24 ho
    subst ho
    replace h0 := g1
    clear h1 g1
    try dsimp only [cutO] at h0
    (cbv; repeat (refine hp.N ?_; cbv))
    replace h0 := bnd_inv h0
    obtain ⟨x26, q5, h0⟩ := h0
    (first | refine .inl (hp.C _ (spec_l1In_con _ _ _ _ q5) ?_) | refine .inl ⟨by (first | trivial | exact rfl | exact ⟨rfl, rfl⟩ | exact ⟨rfl, trivial⟩ | exact ⟨trivial, rfl⟩ | (refine ⟨?_, ?_⟩ <;> first | trivial | exact rfl)), hp.C _ (spec_l1In_con _ _ _ _ q5) ?_⟩ | refine hp.C _ (spec_l1In_con _ _ _ _ q5) ?_)
    (cbv; repeat (refine hp.N ?_; cbv))
    replace h0 := cnd_inv h0
    rcases h0 with ⟨c6, h0⟩ | ⟨c6, h0⟩
    · rw [c6]
      (cbv; repeat (refine hp.N ?_; cbv))
      simp only [Option.some.injEq, Prod.mk.injEq] at h0
      obtain ⟨rfl, rfl⟩ := h0
      (repeat' (first | trivial | exact AB.sub_refl _ | exact AB.sub_any _ | exact rfl | exact AB.cells_eq (fun _ _ _ => rfl) | exact AB.sub_lst rfl (fun _ _ _ => rfl) | exact AB.sub_nil _ | (refine AB.sub_lst rfl ?_; intro i h0 h1; exact absurd (Int.lt_of_le_of_lt h0 h1) (by decide)) | (intro hq; exact absurd hq (by decide)) | exact AB.subLn | refine AB.subLc ?_ ?_ | refine AB.sub_agg ?_ | (refine AB.sub_lst' ?_; intro _ _ _) | exact (fun _ => AB.own_val _ _ (fun _ => rfl)) | (intro i h0 h1; exact absurd (Int.lt_of_le_of_lt h0 h1) (by decide)) | refine ⟨?_, ?_⟩))
    · rw [c6]
      (cbv; repeat (refine hp.N ?_; cbv))
      replace h0 := cut_inv h0
      obtain ⟨o1, h1, g1⟩ := h0
      refine hp.S (Int) (fun y => o1 = .inl y) (fun x34 σ => ⟨frS [(5, .val (.int .i64 x34))] 6 0 σ.s, []⟩) ?_ ?_
      · (cbv; repeat (refine hp.N ?_; cbv))
        refine hp.W (Int × Int) (fun x k => loopF (spec_l1Read_s2 x24) k x = some o1) (fun ⟨x39, x40⟩ σ => ⟨frS [(5, .val (.int .i64 x39)), (6, .val (.int .i64 x40))] 7 0 σ.s, []⟩) ⟨((0, 0) : Int × Int), K, h1, [], ?_⟩ ?_
        · (cbv; repeat (refine hp.N ?_; cbv))
          (repeat' (first | trivial | exact AB.sub_refl _ | exact AB.sub_any _ | exact rfl | exact AB.cells_eq (fun _ _ _ => rfl) | exact AB.sub_lst rfl (fun _ _ _ => rfl) | exact AB.sub_nil _ | (refine AB.sub_lst rfl ?_; intro i h0 h1; exact absurd (Int.lt_of_le_of_lt h0 h1) (by decide)) | (intro hq; exact absurd hq (by decide)) | exact AB.subLn | refine AB.subLc ?_ ?_ | refine AB.sub_agg ?_ | (refine AB.sub_lst' ?_; intro _ _ _) | exact (fun _ => AB.own_val _ _ (fun _ => rfl)) | (intro i h0 h1; exact absurd (Int.lt_of_le_of_lt h0 h1) (by decide)) | refine ⟨?_, ?_⟩))
        · rintro ⟨x39, x40⟩ k2 hI
          replace hI := loopF_inv hI
          obtain ⟨m2, o2, l2, h2, g2⟩ := hI
          unfold spec_l1Read_s2 at h2
          try dsimp only at h2
          ((try rw [← hp.L] at h2); (try dsimp only at h2))
          (cbv; repeat (refine hp.N ?_; cbv))
          replace h2 := cnd_inv h2
          rcases h2 with ⟨c7, h2⟩ | ⟨c7, h2⟩
          · rw [c7]
            (cbv; repeat (refine hp.N ?_; cbv))
            replace h2 := cut_inv h2
            obtain ⟨o3, h3, g3⟩ := h2
            refine hp.S (Bool) (fun y => o3 = .inl y) (fun x41 σ => ⟨frS [(22, .any), (23, .any), (24, .any), (25, .any), (37, .val (.bool x41))] 38 0 σ.s, []⟩) ?_ ?_
            · (cbv; repeat (refine hp.N ?_; cbv))
              replace h3 := grd_inv h3
              obtain ⟨p8, h3⟩ := h3
              refine ⟨by (first | exact p8 | exact ⟨rfl, p8⟩ | exact ⟨p8, trivial⟩ | exact ⟨rfl, p8, trivial⟩ | exact ⟨p8, fun _ _ => rfl⟩ | exact ⟨rfl, fun _ _ => rfl, p8⟩ | exact ⟨fun _ _ => rfl, p8⟩ | exact ⟨rfl, rfl, p8⟩ | trivial | exact rfl | exact ⟨rfl, trivial⟩ | exact ⟨rfl, rfl⟩), ?_⟩
              (repeat (refine hp.N ?_; cbv))
              replace h3 := cnd_inv h3
              rcases h3 with ⟨c9, h3⟩ | ⟨c9, h3⟩
              · rw [c9]
                (cbv; repeat (refine hp.N ?_; cbv))
                refine ⟨_, end_eq h3, [], ?_⟩
                (cbv; repeat (refine hp.N ?_; cbv))
                (repeat' (first | trivial | exact AB.sub_refl _ | exact AB.sub_any _ | exact rfl | exact AB.cells_eq (fun _ _ _ => rfl) | exact AB.sub_lst rfl (fun _ _ _ => rfl) | exact AB.sub_nil _ | (refine AB.sub_lst rfl ?_; intro i h0 h1; exact absurd (Int.lt_of_le_of_lt h0 h1) (by decide)) | (intro hq; exact absurd hq (by decide)) | exact AB.subLn | refine AB.subLc ?_ ?_ | refine AB.sub_agg ?_ | (refine AB.sub_lst' ?_; intro _ _ _) | exact (fun _ => AB.own_val _ _ (fun _ => rfl)) | (intro i h0 h1; exact absurd (Int.lt_of_le_of_lt h0 h1) (by decide)) | refine ⟨?_, ?_⟩))
              · rw [c9]
                (cbv; repeat (refine hp.N ?_; cbv))
                replace h3 := grd_inv h3
                obtain ⟨p10, h3⟩ := h3
                refine ⟨by (first | exact p10 | exact ⟨rfl, p10⟩ | exact ⟨p10, trivial⟩ | exact ⟨rfl, p10, trivial⟩ | exact ⟨p10, fun _ _ => rfl⟩ | exact ⟨rfl, fun _ _ => rfl, p10⟩ | exact ⟨fun _ _ => rfl, p10⟩ | exact ⟨rfl, rfl, p10⟩ | trivial | exact rfl | exact ⟨rfl, trivial⟩ | exact ⟨rfl, rfl⟩), ?_⟩
                (repeat (refine hp.N ?_; cbv))
                refine ⟨_, end_eq h3, [], ?_⟩
                (cbv; repeat (refine hp.N ?_; cbv))
                (repeat' (first | trivial | exact AB.sub_refl _ | exact AB.sub_any _ | exact rfl | exact AB.cells_eq (fun _ _ _ => rfl) | exact AB.sub_lst rfl (fun _ _ _ => rfl) | exact AB.sub_nil _ | (refine AB.sub_lst rfl ?_; intro i h0 h1; exact absurd (Int.lt_of_le_of_lt h0 h1) (by decide)) | (intro hq; exact absurd hq (by decide)) | exact AB.subLn | refine AB.subLc ?_ ?_ | refine AB.sub_agg ?_ | (refine AB.sub_lst' ?_; intro _ _ _) | exact (fun _ => AB.own_val _ _ (fun _ => rfl)) | (intro i h0 h1; exact absurd (Int.lt_of_le_of_lt h0 h1) (by decide)) | refine ⟨?_, ?_⟩))
            · rintro x41 ho
              subst ho
              replace h2 := g3
              clear h3 g3
              try dsimp only [cutO] at h2
              (cbv; repeat (refine hp.N ?_; cbv))
              replace h2 := cnd_inv h2
              rcases h2 with ⟨c11, h2⟩ | ⟨c11, h2⟩
              · subst c11
                (cbv; repeat (refine hp.N ?_; cbv))
                replace h1 := loop_out h2 g2
                clear h2 g2
                try rw [c6] at h1
                try rw [c7] at h1
                replace h0 := cut_out h1 g1
                clear h1 g1
                try rw [c6] at h0
                try rw [c7] at h0
                simp only [Option.some.injEq, Prod.mk.injEq] at h0
                obtain ⟨rfl, rfl⟩ := h0
                (repeat' (first | trivial | exact AB.sub_refl _ | exact AB.sub_any _ | exact rfl | exact AB.cells_eq (fun _ _ _ => rfl) | exact AB.sub_lst rfl (fun _ _ _ => rfl) | exact AB.sub_nil _ | (refine AB.sub_lst rfl ?_; intro i h0 h1; exact absurd (Int.lt_of_le_of_lt h0 h1) (by decide)) | (intro hq; exact absurd hq (by decide)) | exact AB.subLn | refine AB.subLc ?_ ?_ | refine AB.sub_agg ?_ | (refine AB.sub_lst' ?_; intro _ _ _) | exact (fun _ => AB.own_val _ _ (fun _ => rfl)) | (intro i h0 h1; exact absurd (Int.lt_of_le_of_lt h0 h1) (by decide)) | refine ⟨?_, ?_⟩))
              · subst c11
                (cbv; repeat (refine hp.N ?_; cbv))
                replace h2 := grd_inv h2
                obtain ⟨p12, h2⟩ := h2
                refine ⟨by (first | exact p12 | exact ⟨rfl, p12⟩ | exact ⟨p12, trivial⟩ | exact ⟨rfl, p12, trivial⟩ | exact ⟨p12, fun _ _ => rfl⟩ | exact ⟨rfl, fun _ _ => rfl, p12⟩ | exact ⟨fun _ _ => rfl, p12⟩ | exact ⟨rfl, rfl, p12⟩ | trivial | exact rfl | exact ⟨rfl, trivial⟩ | exact ⟨rfl, rfl⟩), ?_⟩
                (repeat (refine hp.N ?_; cbv))
                refine ⟨_, _, ⟨l2, loop_next h2 g2⟩, [], ?_⟩
                (cbv; repeat (refine hp.N ?_; cbv))
                (repeat' (first | trivial | exact AB.sub_refl _ | exact AB.sub_any _ | exact rfl | exact AB.cells_eq (fun _ _ _ => rfl) | exact AB.sub_lst rfl (fun _ _ _ => rfl) | exact AB.sub_nil _ | (refine AB.sub_lst rfl ?_; intro i h0 h1; exact absurd (Int.lt_of_le_of_lt h0 h1) (by decide)) | (intro hq; exact absurd hq (by decide)) | exact AB.subLn | refine AB.subLc ?_ ?_ | refine AB.sub_agg ?_ | (refine AB.sub_lst' ?_; intro _ _ _) | exact (fun _ => AB.own_val _ _ (fun _ => rfl)) | (intro i h0 h1; exact absurd (Int.lt_of_le_of_lt h0 h1) (by decide)) | refine ⟨?_, ?_⟩))
          · rw [c7]
            (cbv; repeat (refine hp.N ?_; cbv))
            replace h1 := loop_out h2 g2
            clear h2 g2
            try rw [c6] at h1
            try rw [c7] at h1
            refine ⟨_, end_eq h1, [], ?_⟩
            (cbv; repeat (refine hp.N ?_; cbv))
            (repeat' (first | trivial | exact AB.sub_refl _ | exact AB.sub_any _ | exact rfl | exact AB.cells_eq (fun _ _ _ => rfl) | exact AB.sub_lst rfl (fun _ _ _ => rfl) | exact AB.sub_nil _ | (refine AB.sub_lst rfl ?_; intro i h0 h1; exact absurd (Int.lt_of_le_of_lt h0 h1) (by decide)) | (intro hq; exact absurd hq (by decide)) | exact AB.subLn | refine AB.subLc ?_ ?_ | refine AB.sub_agg ?_ | (refine AB.sub_lst' ?_; intro _ _ _) | exact (fun _ => AB.own_val _ _ (fun _ => rfl)) | (intro i h0 h1; exact absurd (Int.lt_of_le_of_lt h0 h1) (by decide)) | refine ⟨?_, ?_⟩))
      · rintro x34 ho
        subst ho
        replace h0 := g1
        clear h1 g1
        try dsimp only [cutO] at h0
        (cbv; repeat (refine hp.N ?_; cbv))
        replace h0 := cut_inv h0
        obtain ⟨o1, h1, g1⟩ := h0
        refine hp.S (Int) (fun y => o1 = .inl y) (fun x42 σ => ⟨frS [(4, .any), (5, .val (.int .i64 x42))] 6 0 σ.s, []⟩) ?_ ?_
        · (cbv; repeat (refine hp.N ?_; cbv))
          replace h1 := cnd_inv h1
          rcases h1 with ⟨c13, h1⟩ | ⟨c13, h1⟩
          · rw [c13]
            (cbv; repeat (refine hp.N ?_; cbv))
            refine ⟨_, end_eq h1, [], ?_⟩
            (cbv; repeat (refine hp.N ?_; cbv))
            (repeat' (first | trivial | exact AB.sub_refl _ | exact AB.sub_any _ | exact rfl | exact AB.cells_eq (fun _ _ _ => rfl) | exact AB.sub_lst rfl (fun _ _ _ => rfl) | exact AB.sub_nil _ | (refine AB.sub_lst rfl ?_; intro i h0 h1; exact absurd (Int.lt_of_le_of_lt h0 h1) (by decide)) | (intro hq; exact absurd hq (by decide)) | exact AB.subLn | refine AB.subLc ?_ ?_ | refine AB.sub_agg ?_ | (refine AB.sub_lst' ?_; intro _ _ _) | exact (fun _ => AB.own_val _ _ (fun _ => rfl)) | (intro i h0 h1; exact absurd (Int.lt_of_le_of_lt h0 h1) (by decide)) | refine ⟨?_, ?_⟩))
          · rw [c13]
            (cbv; repeat (refine hp.N ?_; cbv))
            refine ⟨_, end_eq h1, [], ?_⟩
            (cbv; repeat (refine hp.N ?_; cbv))
            (repeat' (first | trivial | exact AB.sub_refl _ | exact AB.sub_any _ | exact rfl | exact AB.cells_eq (fun _ _ _ => rfl) | exact AB.sub_lst rfl (fun _ _ _ => rfl) | exact AB.sub_nil _ | (refine AB.sub_lst rfl ?_; intro i h0 h1; exact absurd (Int.lt_of_le_of_lt h0 h1) (by decide)) | (intro hq; exact absurd hq (by decide)) | exact AB.subLn | refine AB.subLc ?_ ?_ | refine AB.sub_agg ?_ | (refine AB.sub_lst' ?_; intro _ _ _) | exact (fun _ => AB.own_val _ _ (fun _ => rfl)) | (intro i h0 h1; exact absurd (Int.lt_of_le_of_lt h0 h1) (by decide)) | refine ⟨?_, ?_⟩))
        · rintro x42 ho
          subst ho
          replace h0 := g1
          clear h1 g1
          try dsimp only [cutO] at h0
          (cbv; repeat (refine hp.N ?_; cbv))
          replace h0 := bnd_inv h0
          obtain ⟨x43, q14, h0⟩ := h0
          (first | refine .inl (hp.C _ (spec_l1Num_con K K _ _ q14) ?_) | refine .inl ⟨by (first | trivial | exact rfl | exact ⟨rfl, rfl⟩ | exact ⟨rfl, trivial⟩ | exact ⟨trivial, rfl⟩ | (refine ⟨?_, ?_⟩ <;> first | trivial | exact rfl)), hp.C _ (spec_l1Num_con K K _ _ q14) ?_⟩ | refine hp.C _ (spec_l1Num_con K K _ _ q14) ?_)
          (cbv; repeat (refine hp.N ?_; cbv))
          replace h0 := cnd_inv h0
          rcases h0 with ⟨c15, h0⟩ | ⟨c15, h0⟩
          · rw [c15]
            (cbv; repeat (refine hp.N ?_; cbv))
            simp only [Option.some.injEq, Prod.mk.injEq] at h0
            obtain ⟨rfl, rfl⟩ := h0
            (repeat' (first | trivial | exact AB.sub_refl _ | exact AB.sub_any _ | exact rfl | exact AB.cells_eq (fun _ _ _ => rfl) | exact AB.sub_lst rfl (fun _ _ _ => rfl) | exact AB.sub_nil _ | (refine AB.sub_lst rfl ?_; intro i h0 h1; exact absurd (Int.lt_of_le_of_lt h0 h1) (by decide)) | (intro hq; exact absurd hq (by decide)) | exact AB.subLn | refine AB.subLc ?_ ?_ | refine AB.sub_agg ?_ | (refine AB.sub_lst' ?_; intro _ _ _) | exact (fun _ => AB.own_val _ _ (fun _ => rfl)) | (intro i h0 h1; exact absurd (Int.lt_of_le_of_lt h0 h1) (by decide)) | refine ⟨?_, ?_⟩))
          · rw [c15]
            (cbv; repeat (refine hp.N ?_; cbv))
            simp only [Option.some.injEq, Prod.mk.injEq] at h0
            obtain ⟨rfl, rfl⟩ := h0
            (repeat' (first | trivial | exact AB.sub_refl _ | exact AB.sub_any _ | exact rfl | exact AB.cells_eq (fun _ _ _ => rfl) | exact AB.sub_lst rfl (fun _ _ _ => rfl) | exact AB.sub_nil _ | (refine AB.sub_lst rfl ?_; intro i h0 h1; exact absurd (Int.lt_of_le_of_lt h0 h1) (by decide)) | (intro hq; exact absurd hq (by decide)) | exact AB.subLn | refine AB.subLc ?_ ?_ | refine AB.sub_agg ?_ | (refine AB.sub_lst' ?_; intro _ _ _) | exact (fun _ => AB.own_val _ _ (fun _ => rfl)) | (intro i h0 h1; exact absurd (Int.lt_of_le_of_lt h0 h1) (by decide)) | refine ⟨?_, ?_⟩))
end S
end
section
open Go AB
namespace S
open Go.Proofs
variable {G : GI} [Env G]
set_option maxRecDepth 1000000
set_option linter.unusedVariables false
set_option maxHeartbeats 4000000
/-- loop.example/g01248/spec.ParseInt -/
noncomputable def spec_ParseInt (K : Nat) (a1 : ByteArray) : Option (Int × Bool) :=
  bnd (spec_l1Read K a1) fun (⟨x4, x5⟩ : Int × Bool) =>
  some (x4, x5)
theorem spec_ParseInt_con (K : Nat) (a1 : ByteArray) (r1 : Int) (r2 : Bool) (h0 : spec_ParseInt K a1 = some (r1, r2)) : Con P G 37 none [.val (.string a1)] (.tup [.val (.int .i64 r1), .val (.bool r2)]) none := by
  refine con_by tok mo Tryd.func37 rfl rfl (by (first | (rintro _ ⟨rfl⟩; simp; done) | (simp; done) | (intro _ hq; cases hq))) (by (first | (rintro _ _ ⟨rfl⟩ ⟨rfl⟩; rfl) | (simp; done))) ?_
  (rintro ⟨⟨add, sub, mul, quo, rem, neg, bits, shl, shr, lt, le, eq, beq, bnot, band, conv, imin, imax, slen, sat, ssub, scat, seq, slt, ofB, nadd, nsub, selI, selS, selB, selF, isin, cut, fits, nz, makes, cats, shok⟩, C, D, W, S, N⟩ hp; replace hp := AB.isReal hp)
  unfold spec_ParseInt at h0
  ((try rw [← hp.L] at h0); (try dsimp only at h0))
  (cbv; repeat (refine hp.N ?_; cbv))
  replace h0 := bnd_inv h0
  obtain ⟨⟨x4, x5⟩, q1, h0⟩ := h0
  try dsimp only at h0
  (first | refine .inl (hp.C _ (spec_l1Read_con K _ _ _ q1) ?_) | refine .inl ⟨by (first | trivial | exact rfl | exact ⟨rfl, rfl⟩ | exact ⟨rfl, trivial⟩ | exact ⟨trivial, rfl⟩ | (refine ⟨?_, ?_⟩ <;> first | trivial | exact rfl)), hp.C _ (spec_l1Read_con K _ _ _ q1) ?_⟩ | refine hp.C _ (spec_l1Read_con K _ _ _ q1) ?_)
  (cbv; repeat (refine hp.N ?_; cbv))
  simp only [Option.some.injEq, Prod.mk.injEq] at h0
  obtain ⟨rfl, rfl⟩ := h0
  (repeat' (first | trivial | exact AB.sub_refl _ | exact AB.sub_any _ | exact rfl | exact AB.cells_eq (fun _ _ _ => rfl) | exact AB.sub_lst rfl (fun _ _ _ => rfl) | exact AB.sub_nil _ | (refine AB.sub_lst rfl ?_; intro i h0 h1; exact absurd (Int.lt_of_le_of_lt h0 h1) (by decide)) | (intro hq; exact absurd hq (by decide)) | exact AB.subLn | refine AB.subLc ?_ ?_ | refine AB.sub_agg ?_ | (refine AB.sub_lst' ?_; intro _ _ _) | exact (fun _ => AB.own_val _ _ (fun _ => rfl)) | (intro i h0 h1; exact absurd (Int.lt_of_le_of_lt h0 h1) (by decide)) | refine ⟨?_, ?_⟩))
end S
end
section
open Go AB
namespace S
open Go.Proofs
variable {G : GI} [Env G]
set_option maxRecDepth 1000000
set_option linter.unusedVariables false
set_option maxHeartbeats 4000000
/-- loop.example/g01248/laws.FnStrings -/
noncomputable def laws_FnStrings (K : Nat) (a1 : Int) (a2 : Int → Int) : Option Bool :=
  bnd (laws_vBig a1 (fun k0 => a2 k0)) fun (x30 : Bool) =>
  cnd (x30) (
    some true) (
    bnd (spec_DrawFormatInt a1 (fun k0 => a2 k0)) fun (x31 : Int) =>
    bnd (impl_FormatInt x31) fun (⟨x32, x33⟩ : ByteArray × Bool) =>
    bnd (spec_FormatInt K x31) fun (⟨x34, x35⟩ : ByteArray × Bool) =>
    bnd (spec_DrawParseInt K a1 (fun k0 => a2 k0)) fun (x36 : ByteArray) =>
    bnd (x_ParseInt x36) fun (⟨x37, x38⟩ : Int × Bool) =>
    bnd (spec_ParseInt K x36) fun (⟨x39, x40⟩ : Int × Bool) =>
    bnd (spec_DrawAppendChecksum a1 (fun k0 => a2 k0)) fun (x41 : ByteArray) =>
    bnd (impl_AppendChecksum K x41) fun (⟨x42, x43⟩ : ByteArray × Bool) =>
    bnd (spec_AppendChecksum K x41) fun (⟨x44, x45⟩ : ByteArray × Bool) =>
    cut (
      cnd (std.bnot (std.seq x32 x34)) (
        some (.inl true)) (
        cnd (std.bnot (std.beq x33 x35)) (
          some (.inl true)) (
          cnd (std.bnot (std.eq x37 x39)) (
            some (.inl true)) (
            cnd (std.bnot (std.beq x38 x40)) (
              some (.inl true)) (
              cnd (std.bnot (std.seq x42 x44)) (
                some (.inl true)) (
                some (.inl (std.bnot (std.beq x43 x45))))))))) fun (x46 : Bool) =>
    cnd (x46) (
      some false) (
      bnd (x_ParseInt x32) fun (⟨x47, x48⟩ : Int × Bool) =>
      cut (
        cnd (x33) (
          cnd (std.bnot x48) (
            some (.inl true)) (
            some (.inl (std.bnot (std.eq x47 x31))))) (
          some (.inl false))) fun (x49 : Bool) =>
      cnd (x49) (
        some false) (
        cnd (std.bnot x43) (
          some (std.seq x42 ⟨#[]⟩)) (
          bnd (impl_VerifyChecksum K x42) fun (⟨x50, x51⟩ : ByteArray × Bool) =>
          grd (std.makes (std.slen x42) 1) <|
          bnd (laws_vAt a1 (fun k0 => a2 k0) 9) fun (x52 : Int) =>
          grd (std.nz (std.slen x42)) <|
          grd (std.isin (std.rem .i64 x52 (std.slen x42)) (std.slen x42)) <|
          grd (std.isin (std.rem .i64 x52 (std.slen x42)) (std.slen x42)) <|
          bnd (laws_vAt a1 (fun k0 => a2 k0) 10) fun (x53 : Int) =>
          grd (std.nz 255) <|
          grd (std.isin (std.rem .i64 x52 (std.slen x42)) (std.slen x42)) <|
          grd (std.isin (std.rem .i64 x52 (std.slen x42)) (std.slen x42)) <|
          grd (∀ k0, std.isin k0 (std.slen x42) → ∃ c : UInt8, (std.selI (std.eq k0 (std.rem .i64 x52 (std.slen x42))) (std.bits .xor .u8 (std.sat x42 (std.rem .i64 x52 (std.slen x42))) (std.conv .u8 (std.add .i64 1 (std.rem .i64 x53 255)))) (std.sat x42 k0) : Int) = (c.toNat : Int)) <|
          bnd (impl_VerifyChecksum K (std.ofB (std.slen x42) (fun k0 => [.val (.int .u8 (std.selI (std.eq k0 (std.rem .i64 x52 (std.slen x42))) (std.bits .xor .u8 (std.sat x42 (std.rem .i64 x52 (std.slen x42))) (std.conv .u8 (std.add .i64 1 (std.rem .i64 x53 255)))) (std.sat x42 k0)))]))) fun (⟨x54, x55⟩ : ByteArray × Bool) =>
          cut (
            cnd (x51) (
              cnd (std.seq x50 x41) (
                some (.inl (std.bnot x55))) (
                some (.inl false))) (
              some (.inl false))) fun (x56 : Bool) =>
          some x56))))
theorem laws_FnStrings_con (K : Nat) (a1 : Int) (a2 : Int → Int) (r1 : Bool) (h0 : laws_FnStrings K a1 a2 = some r1) : Con P G 4 none [.lst a1 (fun k0 => [.val (.int .u8 (a2 k0))])] (.val (.bool r1)) none := by
  refine con_by tok mo Tryd.func4 rfl rfl (by (first | (rintro _ ⟨rfl⟩; simp; done) | (simp; done) | (intro _ hq; cases hq))) (by (first | (rintro _ _ ⟨rfl⟩ ⟨rfl⟩; rfl) | (simp; done))) ?_
  (rintro ⟨⟨add, sub, mul, quo, rem, neg, bits, shl, shr, lt, le, eq, beq, bnot, band, conv, imin, imax, slen, sat, ssub, scat, seq, slt, ofB, nadd, nsub, selI, selS, selB, selF, isin, cut, fits, nz, makes, cats, shok⟩, C, D, W, S, N⟩ hp; replace hp := AB.isReal hp)
  unfold laws_FnStrings at h0
  ((try rw [← hp.L] at h0); (try dsimp only at h0))
  (cbv; repeat (refine hp.N ?_; cbv))
  replace h0 := bnd_inv h0
  obtain ⟨x30, q1, h0⟩ := h0
  (first | refine .inl (hp.C _ (laws_vBig_con _ _ _ q1) ?_) | refine .inl ⟨by (first | trivial | exact rfl | exact ⟨rfl, rfl⟩ | exact ⟨rfl, trivial⟩ | exact ⟨trivial, rfl⟩ | (refine ⟨?_, ?_⟩ <;> first | trivial | exact rfl)), hp.C _ (laws_vBig_con _ _ _ q1) ?_⟩ | refine hp.C _ (laws_vBig_con _ _ _ q1) ?_)
  (cbv; repeat (refine hp.N ?_; cbv))
  replace h0 := cnd_inv h0
  rcases h0 with ⟨c2, h0⟩ | ⟨c2, h0⟩
  · subst c2
    (cbv; repeat (refine hp.N ?_; cbv))
    obtain rfl := Option.some.inj h0
    (repeat' (first | trivial | exact AB.sub_refl _ | exact AB.sub_any _ | exact rfl | exact AB.cells_eq (fun _ _ _ => rfl) | exact AB.sub_lst rfl (fun _ _ _ => rfl) | exact AB.sub_nil _ | (refine AB.sub_lst rfl ?_; intro i h0 h1; exact absurd (Int.lt_of_le_of_lt h0 h1) (by decide)) | (intro hq; exact absurd hq (by decide)) | exact AB.subLn | refine AB.subLc ?_ ?_ | refine AB.sub_agg ?_ | (refine AB.sub_lst' ?_; intro _ _ _) | exact (fun _ => AB.own_val _ _ (fun _ => rfl)) | (intro i h0 h1; exact absurd (Int.lt_of_le_of_lt h0 h1) (by decide)) | refine ⟨?_, ?_⟩))
  · subst c2
    (cbv; repeat (refine hp.N ?_; cbv))
    replace h0 := bnd_inv h0
    obtain ⟨x31, q3, h0⟩ := h0
    (first | refine .inl (hp.C _ (spec_DrawFormatInt_con _ _ _ q3) ?_) | refine .inl ⟨by (first | trivial | exact rfl | exact ⟨rfl, rfl⟩ | exact ⟨rfl, trivial⟩ | exact ⟨trivial, rfl⟩ | (refine ⟨?_, ?_⟩ <;> first | trivial | exact rfl)), hp.C _ (spec_DrawFormatInt_con _ _ _ q3) ?_⟩ | refine hp.C _ (spec_DrawFormatInt_con _ _ _ q3) ?_)
    (cbv; repeat (refine hp.N ?_; cbv))
    replace h0 := bnd_inv h0
    obtain ⟨⟨x32, x33⟩, q4, h0⟩ := h0
    try dsimp only at h0
    (first | refine .inl (hp.C _ (impl_FormatInt_con _ _ _ q4) ?_) | refine .inl ⟨by (first | trivial | exact rfl | exact ⟨rfl, rfl⟩ | exact ⟨rfl, trivial⟩ | exact ⟨trivial, rfl⟩ | (refine ⟨?_, ?_⟩ <;> first | trivial | exact rfl)), hp.C _ (impl_FormatInt_con _ _ _ q4) ?_⟩ | refine hp.C _ (impl_FormatInt_con _ _ _ q4) ?_)
    (cbv; repeat (refine hp.N ?_; cbv))
    replace h0 := bnd_inv h0
    obtain ⟨⟨x34, x35⟩, q5, h0⟩ := h0
    try dsimp only at h0
    (first | refine .inl (hp.C _ (spec_FormatInt_con K _ _ _ q5) ?_) | refine .inl ⟨by (first | trivial | exact rfl | exact ⟨rfl, rfl⟩ | exact ⟨rfl, trivial⟩ | exact ⟨trivial, rfl⟩ | (refine ⟨?_, ?_⟩ <;> first | trivial | exact rfl)), hp.C _ (spec_FormatInt_con K _ _ _ q5) ?_⟩ | refine hp.C _ (spec_FormatInt_con K _ _ _ q5) ?_)
    (cbv; repeat (refine hp.N ?_; cbv))
    replace h0 := bnd_inv h0
    obtain ⟨x36, q6, h0⟩ := h0
    (first | refine .inl (hp.C _ (spec_DrawParseInt_con K _ _ _ q6) ?_) | refine .inl ⟨by (first | trivial | exact rfl | exact ⟨rfl, rfl⟩ | exact ⟨rfl, trivial⟩ | exact ⟨trivial, rfl⟩ | (refine ⟨?_, ?_⟩ <;> first | trivial | exact rfl)), hp.C _ (spec_DrawParseInt_con K _ _ _ q6) ?_⟩ | refine hp.C _ (spec_DrawParseInt_con K _ _ _ q6) ?_)
    (cbv; repeat (refine hp.N ?_; cbv))
    replace h0 := bnd_inv h0
    obtain ⟨⟨x37, x38⟩, q7, h0⟩ := h0
    try dsimp only at h0
    (first | refine .inl (hp.C _ (x_ParseInt_con _ _ _ q7) ?_) | refine .inl ⟨by (first | trivial | exact rfl | exact ⟨rfl, rfl⟩ | exact ⟨rfl, trivial⟩ | exact ⟨trivial, rfl⟩ | (refine ⟨?_, ?_⟩ <;> first | trivial | exact rfl)), hp.C _ (x_ParseInt_con _ _ _ q7) ?_⟩ | refine hp.C _ (x_ParseInt_con _ _ _ q7) ?_)
    (cbv; repeat (refine hp.N ?_; cbv))
    replace h0 := bnd_inv h0
    obtain ⟨⟨x39, x40⟩, q8, h0⟩ := h0
    try dsimp only at h0
    (first | refine .inl (hp.C _ (spec_ParseInt_con K _ _ _ q8) ?_) | refine .inl ⟨by (first | trivial | exact rfl | exact ⟨rfl, rfl⟩ | exact ⟨rfl, trivial⟩ | exact ⟨trivial, rfl⟩ | (refine ⟨?_, ?_⟩ <;> first | trivial | exact rfl)), hp.C _ (spec_ParseInt_con K _ _ _ q8) ?_⟩ | refine hp.C _ (spec_ParseInt_con K _ _ _ q8) ?_)
    (cbv; repeat (refine hp.N ?_; cbv))
    replace h0 := bnd_inv h0
    obtain ⟨x41, q9, h0⟩ := h0
    (first | refine .inl (hp.C _ (spec_DrawAppendChecksum_con _ _ _ q9) ?_) | refine .inl ⟨by (first | trivial | exact rfl | exact ⟨rfl, rfl⟩ | exact ⟨rfl, trivial⟩ | exact ⟨trivial, rfl⟩ | (refine ⟨?_, ?_⟩ <;> first | trivial | exact rfl)), hp.C _ (spec_DrawAppendChecksum_con _ _ _ q9) ?_⟩ | refine hp.C _ (spec_DrawAppendChecksum_con _ _ _ q9) ?_)
    (cbv; repeat (refine hp.N ?_; cbv))
    replace h0 := bnd_inv h0
    obtain ⟨⟨x42, x43⟩, q10, h0⟩ := h0
    try dsimp only at h0
    (first | refine .inl (hp.C _ (impl_AppendChecksum_con K _ _ _ q10) ?_) | refine .inl ⟨by (first | trivial | exact rfl | exact ⟨rfl, rfl⟩ | exact ⟨rfl, trivial⟩ | exact ⟨trivial, rfl⟩ | (refine ⟨?_, ?_⟩ <;> first | trivial | exact rfl)), hp.C _ (impl_AppendChecksum_con K _ _ _ q10) ?_⟩ | refine hp.C _ (impl_AppendChecksum_con K _ _ _ q10) ?_)
    (cbv; repeat (refine hp.N ?_; cbv))
    replace h0 := bnd_inv h0
    obtain ⟨⟨x44, x45⟩, q11, h0⟩ := h0
    try dsimp only at h0
    (first | refine .inl (hp.C _ (spec_AppendChecksum_con K _ _ _ q11) ?_) | refine .inl ⟨by (first | trivial | exact rfl | exact ⟨rfl, rfl⟩ | exact ⟨rfl, trivial⟩ | exact ⟨trivial, rfl⟩ | (refine ⟨?_, ?_⟩ <;> first | trivial | exact rfl)), hp.C _ (spec_AppendChecksum_con K _ _ _ q11) ?_⟩ | refine hp.C _ (spec_AppendChecksum_con K _ _ _ q11) ?_)
    (cbv; repeat (refine hp.N ?_; cbv))
    replace h0 := cut_inv h0
    obtain ⟨o1, h1, g1⟩ := h0
    refine hp.S (Bool) (fun y => o1 = .inl y) (fun x46 σ => ⟨frS [(2, .any), (6, .any), (7, .any), (8, .any), (9, .any), (10, .any), (11, .any), (12, .any), (16, .any), (17, .any), (26, .any), (27, .any), (28, .any), (29, .any), (30, .any), (31, .any), (32, .any), (33, .any), (34, .any), (35, .any), (36, .any), (37, .any), (38, .any), (39, .any), (40, .any), (41, .any), (42, .any), (43, .any), (44, .any), (45, .any), (46, .any), (47, .any), (48, .any), (49, .any), (50, .any), (51, .any), (52, .any), (53, .any), (54, .any), (55, .any), (56, .any), (57, .any), (58, .any), (59, .any), (60, .any), (61, .any), (62, .any), (63, .any), (91, .val (.bool x46))] 92 0 σ.s, []⟩) ?_ ?_
    · (cbv; repeat (refine hp.N ?_; cbv))
      replace h1 := cnd_inv h1
      rcases h1 with ⟨c12, h1⟩ | ⟨c12, h1⟩
      · rw [c12]
        (cbv; repeat (refine hp.N ?_; cbv))
        refine ⟨_, end_eq h1, [], ?_⟩
        (cbv; repeat (refine hp.N ?_; cbv))
        (repeat' (first | trivial | exact AB.sub_refl _ | exact AB.sub_any _ | exact rfl | exact AB.cells_eq (fun _ _ _ => rfl) | exact AB.sub_lst rfl (fun _ _ _ => rfl) | exact AB.sub_nil _ | (refine AB.sub_lst rfl ?_; intro i h0 h1; exact absurd (Int.lt_of_le_of_lt h0 h1) (by decide)) | (intro hq; exact absurd hq (by decide)) | exact AB.subLn | refine AB.subLc ?_ ?_ | refine AB.sub_agg ?_ | (refine AB.sub_lst' ?_; intro _ _ _) | exact (fun _ => AB.own_val _ _ (fun _ => rfl)) | (intro i h0 h1; exact absurd (Int.lt_of_le_of_lt h0 h1) (by decide)) | refine ⟨?_, ?_⟩))
      · rw [c12]
        (cbv; repeat (refine hp.N ?_; cbv))
        replace h1 := cnd_inv h1
        rcases h1 with ⟨c13, h1⟩ | ⟨c13, h1⟩
        · rw [c13]
          (cbv; repeat (refine hp.N ?_; cbv))
          refine ⟨_, end_eq h1, [], ?_⟩
          (cbv; repeat (refine hp.N ?_; cbv))
          (repeat' (first | trivial | exact AB.sub_refl _ | exact AB.sub_any _ | exact rfl | exact AB.cells_eq (fun _ _ _ => rfl) | exact AB.sub_lst rfl (fun _ _ _ => rfl) | exact AB.sub_nil _ | (refine AB.sub_lst rfl ?_; intro i h0 h1; exact absurd (Int.lt_of_le_of_lt h0 h1) (by decide)) | (intro hq; exact absurd hq (by decide)) | exact AB.subLn | refine AB.subLc ?_ ?_ | refine AB.sub_agg ?_ | (refine AB.sub_lst' ?_; intro _ _ _) | exact (fun _ => AB.own_val _ _ (fun _ => rfl)) | (intro i h0 h1; exact absurd (Int.lt_of_le_of_lt h0 h1) (by decide)) | refine ⟨?_, ?_⟩))
        · rw [c13]
          (cbv; repeat (refine hp.N ?_; cbv))
          replace h1 := cnd_inv h1
          rcases h1 with ⟨c14, h1⟩ | ⟨c14, h1⟩
          · rw [c14]
            (cbv; repeat (refine hp.N ?_; cbv))
            refine ⟨_, end_eq h1, [], ?_⟩
            (cbv; repeat (refine hp.N ?_; cbv))
            (repeat' (first | trivial | exact AB.sub_refl _ | exact AB.sub_any _ | exact rfl | exact AB.cells_eq (fun _ _ _ => rfl) | exact AB.sub_lst rfl (fun _ _ _ => rfl) | exact AB.sub_nil _ | (refine AB.sub_lst rfl ?_; intro i h0 h1; exact absurd (Int.lt_of_le_of_lt h0 h1) (by decide)) | (intro hq; exact absurd hq (by decide)) | exact AB.subLn | refine AB.subLc ?_ ?_ | refine AB.sub_agg ?_ | (refine AB.sub_lst' ?_; intro _ _ _) | exact (fun _ => AB.own_val _ _ (fun _ => rfl)) | (intro i h0 h1; exact absurd (Int.lt_of_le_of_lt h0 h1) (by decide)) | refine ⟨?_, ?_⟩))
          · rw [c14]
            (cbv; repeat (refine hp.N ?_; cbv))
            replace h1 := cnd_inv h1
            rcases h1 with ⟨c15, h1⟩ | ⟨c15, h1⟩
            · rw [c15]
              (cbv; repeat (refine hp.N ?_; cbv))
              refine ⟨_, end_eq h1, [], ?_⟩
              (cbv; repeat (refine hp.N ?_; cbv))
              (repeat' (first | trivial | exact AB.sub_refl _ | exact AB.sub_any _ | exact rfl | exact AB.cells_eq (fun _ _ _ => rfl) | exact AB.sub_lst rfl (fun _ _ _ => rfl) | exact AB.sub_nil _ | (refine AB.sub_lst rfl ?_; intro i h0 h1; exact absurd (Int.lt_of_le_of_lt h0 h1) (by decide)) | (intro hq; exact absurd hq (by decide)) | exact AB.subLn | refine AB.subLc ?_ ?_ | refine AB.sub_agg ?_ | (refine AB.sub_lst' ?_; intro _ _ _) | exact (fun _ => AB.own_val _ _ (fun _ => rfl)) | (intro i h0 h1; exact absurd (Int.lt_of_le_of_lt h0 h1) (by decide)) | refine ⟨?_, ?_⟩))
            · rw [c15]
              (cbv; repeat (refine hp.N ?_; cbv))
              replace h1 := cnd_inv h1
              rcases h1 with ⟨c16, h1⟩ | ⟨c16, h1⟩
              · rw [c16]
                (cbv; repeat (refine hp.N ?_; cbv))
                refine ⟨_, end_eq h1, [], ?_⟩
                (cbv; repeat (refine hp.N ?_; cbv))
                (repeat' (first | trivial | exact AB.sub_refl _ | exact AB.sub_any _ | exact rfl | exact AB.cells_eq (fun _ _ _ => rfl) | exact AB.sub_lst rfl (fun _ _ _ => rfl) | exact AB.sub_nil _ | (refine AB.sub_lst rfl ?_; intro i h0 h1; exact absurd (Int.lt_of_le_of_lt h0 h1) (by decide)) | (intro hq; exact absurd hq (by decide)) | exact AB.subLn | refine AB.subLc ?_ ?_ | refine AB.sub_agg ?_ | (refine AB.sub_lst' ?_; intro _ _ _) | exact (fun _ => AB.own_val _ _ (fun _ => rfl)) | (intro i h0 h1; exact absurd (Int.lt_of_le_of_lt h0 h1) (by decide)) | refine ⟨?_, ?_⟩))
              · rw [c16]
                (cbv; repeat (refine hp.N ?_; cbv))
                refine ⟨_, end_eq h1, [], ?_⟩
                (cbv; repeat (refine hp.N ?_; cbv))
                (repeat' (first | trivial | exact AB.sub_refl _ | exact AB.sub_any _ | exact rfl | exact AB.cells_eq (fun _ _ _ => rfl) | exact AB.sub_lst rfl (fun _ _ _ => rfl) | exact AB.sub_nil _ | (refine AB.sub_lst rfl ?_; intro i h0 h1; exact absurd (Int.lt_of_le_of_lt h0 h1) (by decide)) | (intro hq; exact absurd hq (by decide)) | exact AB.subLn | refine AB.subLc ?_ ?_ | refine AB.sub_agg ?_ | (refine AB.sub_lst' ?_; intro _ _ _) | exact (fun _ => AB.own_val _ _ (fun _ => rfl)) | (intro i h0 h1; exact absurd (Int.lt_of_le_of_lt h0 h1) (by decide)) | refine ⟨?_, ?_⟩))
    · rintro x46 ho
      subst ho
      replace h0 := g1
      clear h1 g1
      try dsimp only [cutO] at h0
      (cbv; repeat (refine hp.N ?_; cbv))
      replace h0 := cnd_inv h0
      rcases h0 with ⟨c17, h0⟩ | ⟨c17, h0⟩
      · subst c17
        (cbv; repeat (refine hp.N ?_; cbv))
        obtain rfl := Option.some.inj h0
        (repeat' (first | trivial | exact AB.sub_refl _ | exact AB.sub_any _ | exact rfl | exact AB.cells_eq (fun _ _ _ => rfl) | exact AB.sub_lst rfl (fun _ _ _ => rfl) | exact AB.sub_nil _ | (refine AB.sub_lst rfl ?_; intro i h0 h1; exact absurd (Int.lt_of_le_of_lt h0 h1) (by decide)) | (intro hq; exact absurd hq (by decide)) | exact AB.subLn | refine AB.subLc ?_ ?_ | refine AB.sub_agg ?_ | (refine AB.sub_lst' ?_; intro _ _ _) | exact (fun _ => AB.own_val _ _ (fun _ => rfl)) | (intro i h0 h1; exact absurd (Int.lt_of_le_of_lt h0 h1) (by decide)) | refine ⟨?_, ?_⟩))
      · subst c17
        (cbv; repeat (refine hp.N ?_; cbv))
        replace h0 := bnd_inv h0
        obtain ⟨⟨x47, x48⟩, q18, h0⟩ := h0
        try dsimp only at h0
        (first | refine .inl (hp.C _ (x_ParseInt_con _ _ _ q18) ?_) | refine .inl ⟨by (first | trivial | exact rfl | exact ⟨rfl, rfl⟩ | exact ⟨rfl, trivial⟩ | exact ⟨trivial, rfl⟩ | (refine ⟨?_, ?_⟩ <;> first | trivial | exact rfl)), hp.C _ (x_ParseInt_con _ _ _ q18) ?_⟩ | refine hp.C _ (x_ParseInt_con _ _ _ q18) ?_)
        (cbv; repeat (refine hp.N ?_; cbv))
        replace h0 := cut_inv h0
        obtain ⟨o1, h1, g1⟩ := h0
        refine hp.S (Bool) (fun y => o1 = .inl y) (fun x49 σ => ⟨frS [(3, .any), (4, .any), (5, .any), (18, .any), (19, .any), (91, .any), (92, .any), (93, .any), (94, .any), (95, .any), (96, .any), (106, .val (.bool x49))] 107 0 σ.s, []⟩) ?_ ?_
        · (cbv; repeat (refine hp.N ?_; cbv))
          replace h1 := cnd_inv h1
          rcases h1 with ⟨c19, h1⟩ | ⟨c19, h1⟩
          · subst c19
            (cbv; repeat (refine hp.N ?_; cbv))
            replace h1 := cnd_inv h1
            rcases h1 with ⟨c20, h1⟩ | ⟨c20, h1⟩
            · rw [c20]
              (cbv; repeat (refine hp.N ?_; cbv))
              refine ⟨_, end_eq h1, [], ?_⟩
              (cbv; repeat (refine hp.N ?_; cbv))
              (repeat' (first | trivial | exact AB.sub_refl _ | exact AB.sub_any _ | exact rfl | exact AB.cells_eq (fun _ _ _ => rfl) | exact AB.sub_lst rfl (fun _ _ _ => rfl) | exact AB.sub_nil _ | (refine AB.sub_lst rfl ?_; intro i h0 h1; exact absurd (Int.lt_of_le_of_lt h0 h1) (by decide)) | (intro hq; exact absurd hq (by decide)) | exact AB.subLn | refine AB.subLc ?_ ?_ | refine AB.sub_agg ?_ | (refine AB.sub_lst' ?_; intro _ _ _) | exact (fun _ => AB.own_val _ _ (fun _ => rfl)) | (intro i h0 h1; exact absurd (Int.lt_of_le_of_lt h0 h1) (by decide)) | refine ⟨?_, ?_⟩))
            · rw [c20]
              (cbv; repeat (refine hp.N ?_; cbv))
              refine ⟨_, end_eq h1, [], ?_⟩
              (cbv; repeat (refine hp.N ?_; cbv))
              (repeat' (first | trivial | exact AB.sub_refl _ | exact AB.sub_any _ | exact rfl | exact AB.cells_eq (fun _ _ _ => rfl) | exact AB.sub_lst rfl (fun _ _ _ => rfl) | exact AB.sub_nil _ | (refine AB.sub_lst rfl ?_; intro i h0 h1; exact absurd (Int.lt_of_le_of_lt h0 h1) (by decide)) | (intro hq; exact absurd hq (by decide)) | exact AB.subLn | refine AB.subLc ?_ ?_ | refine AB.sub_agg ?_ | (refine AB.sub_lst' ?_; intro _ _ _) | exact (fun _ => AB.own_val _ _ (fun _ => rfl)) | (intro i h0 h1; exact absurd (Int.lt_of_le_of_lt h0 h1) (by decide)) | refine ⟨?_, ?_⟩))
          · subst c19
            (cbv; repeat (refine hp.N ?_; cbv))
            refine ⟨_, end_eq h1, [], ?_⟩
            (cbv; repeat (refine hp.N ?_; cbv))
            (repeat' (first | trivial | exact AB.sub_refl _ | exact AB.sub_any _ | exact rfl | exact AB.cells_eq (fun _ _ _ => rfl) | exact AB.sub_lst rfl (fun _ _ _ => rfl) | exact AB.sub_nil _ | (refine AB.sub_lst rfl ?_; intro i h0 h1; exact absurd (Int.lt_of_le_of_lt h0 h1) (by decide)) | (intro hq; exact absurd hq (by decide)) | exact AB.subLn | refine AB.subLc ?_ ?_ | refine AB.sub_agg ?_ | (refine AB.sub_lst' ?_; intro _ _ _) | exact (fun _ => AB.own_val _ _ (fun _ => rfl)) | (intro i h0 h1; exact absurd (Int.lt_of_le_of_lt h0 h1) (by decide)) | refine ⟨?_, ?_⟩))
        · rintro x49 ho
          subst ho
          replace h0 := g1
          clear h1 g1
          try dsimp only [cutO] at h0
          (cbv; repeat (refine hp.N ?_; cbv))
          replace h0 := cnd_inv h0
          rcases h0 with ⟨c21, h0⟩ | ⟨c21, h0⟩
          · subst c21
            (cbv; repeat (refine hp.N ?_; cbv))
            obtain rfl := Option.some.inj h0
            (repeat' (first | trivial | exact AB.sub_refl _ | exact AB.sub_any _ | exact rfl | exact AB.cells_eq (fun _ _ _ => rfl) | exact AB.sub_lst rfl (fun _ _ _ => rfl) | exact AB.sub_nil _ | (refine AB.sub_lst rfl ?_; intro i h0 h1; exact absurd (Int.lt_of_le_of_lt h0 h1) (by decide)) | (intro hq; exact absurd hq (by decide)) | exact AB.subLn | refine AB.subLc ?_ ?_ | refine AB.sub_agg ?_ | (refine AB.sub_lst' ?_; intro _ _ _) | exact (fun _ => AB.own_val _ _ (fun _ => rfl)) | (intro i h0 h1; exact absurd (Int.lt_of_le_of_lt h0 h1) (by decide)) | refine ⟨?_, ?_⟩))
          · subst c21
            (cbv; repeat (refine hp.N ?_; cbv))
            replace h0 := cnd_inv h0
            rcases h0 with ⟨c22, h0⟩ | ⟨c22, h0⟩
            · rw [c22]
              (cbv; repeat (refine hp.N ?_; cbv))
              obtain rfl := Option.some.inj h0
              (repeat' (first | trivial | exact AB.sub_refl _ | exact AB.sub_any _ | exact rfl | exact AB.cells_eq (fun _ _ _ => rfl) | exact AB.sub_lst rfl (fun _ _ _ => rfl) | exact AB.sub_nil _ | (refine AB.sub_lst rfl ?_; intro i h0 h1; exact absurd (Int.lt_of_le_of_lt h0 h1) (by decide)) | (intro hq; exact absurd hq (by decide)) | exact AB.subLn | refine AB.subLc ?_ ?_ | refine AB.sub_agg ?_ | (refine AB.sub_lst' ?_; intro _ _ _) | exact (fun _ => AB.own_val _ _ (fun _ => rfl)) | (intro i h0 h1; exact absurd (Int.lt_of_le_of_lt h0 h1) (by decide)) | refine ⟨?_, ?_⟩))
            · rw [c22]
              (cbv; repeat (refine hp.N ?_; cbv))
              replace h0 := bnd_inv h0
              obtain ⟨⟨x50, x51⟩, q23, h0⟩ := h0
              try dsimp only at h0
              (first | refine .inl (hp.C _ (impl_VerifyChecksum_con K _ _ _ q23) ?_) | refine .inl ⟨by (first | trivial | exact rfl | exact ⟨rfl, rfl⟩ | exact ⟨rfl, trivial⟩ | exact ⟨trivial, rfl⟩ | (refine ⟨?_, ?_⟩ <;> first | trivial | exact rfl)), hp.C _ (impl_VerifyChecksum_con K _ _ _ q23) ?_⟩ | refine hp.C _ (impl_VerifyChecksum_con K _ _ _ q23) ?_)
              (cbv; repeat (refine hp.N ?_; cbv))
              replace h0 := grd_inv h0
              obtain ⟨p24, h0⟩ := h0
              refine ⟨by (first | exact p24 | exact ⟨rfl, p24⟩ | exact ⟨p24, trivial⟩ | exact ⟨rfl, p24, trivial⟩ | exact ⟨p24, fun _ _ => rfl⟩ | exact ⟨rfl, fun _ _ => rfl, p24⟩ | exact ⟨fun _ _ => rfl, p24⟩ | exact ⟨rfl, rfl, p24⟩ | trivial | exact rfl | exact ⟨rfl, trivial⟩ | exact ⟨rfl, rfl⟩), ?_⟩
              (repeat (refine hp.N ?_; cbv))
              replace h0 := bnd_inv h0
              obtain ⟨x52, q25, h0⟩ := h0
              (first | refine .inl (hp.C _ (laws_vAt_con _ _ _ _ q25) ?_) | refine .inl ⟨by (first | trivial | exact rfl | exact ⟨rfl, rfl⟩ | exact ⟨rfl, trivial⟩ | exact ⟨trivial, rfl⟩ | (refine ⟨?_, ?_⟩ <;> first | trivial | exact rfl)), hp.C _ (laws_vAt_con _ _ _ _ q25) ?_⟩ | refine hp.C _ (laws_vAt_con _ _ _ _ q25) ?_)
              (cbv; repeat (refine hp.N ?_; cbv))
              replace h0 := grd_inv h0
              obtain ⟨p26, h0⟩ := h0
              refine ⟨by (first | exact p26 | exact ⟨rfl, p26⟩ | exact ⟨p26, trivial⟩ | exact ⟨rfl, p26, trivial⟩ | exact ⟨p26, fun _ _ => rfl⟩ | exact ⟨rfl, fun _ _ => rfl, p26⟩ | exact ⟨fun _ _ => rfl, p26⟩ | exact ⟨rfl, rfl, p26⟩ | trivial | exact rfl | exact ⟨rfl, trivial⟩ | exact ⟨rfl, rfl⟩), ?_⟩
              (repeat (refine hp.N ?_; cbv))
              replace h0 := grd_inv h0
              obtain ⟨p27, h0⟩ := h0
              refine ⟨by (first | exact p27 | exact ⟨rfl, p27⟩ | exact ⟨p27, trivial⟩ | exact ⟨rfl, p27, trivial⟩ | exact ⟨p27, fun _ _ => rfl⟩ | exact ⟨rfl, fun _ _ => rfl, p27⟩ | exact ⟨fun _ _ => rfl, p27⟩ | exact ⟨rfl, rfl, p27⟩ | trivial | exact rfl | exact ⟨rfl, trivial⟩ | exact ⟨rfl, rfl⟩), ?_⟩
              (repeat (refine hp.N ?_; cbv))
              replace h0 := grd_inv h0
              obtain ⟨p28, h0⟩ := h0
              refine ⟨by (first | exact p28 | exact ⟨rfl, p28⟩ | exact ⟨p28, trivial⟩ | exact ⟨rfl, p28, trivial⟩ | exact ⟨p28, fun _ _ => rfl⟩ | exact ⟨rfl, fun _ _ => rfl, p28⟩ | exact ⟨fun _ _ => rfl, p28⟩ | exact ⟨rfl, rfl, p28⟩ | trivial | exact rfl | exact ⟨rfl, trivial⟩ | exact ⟨rfl, rfl⟩), ?_⟩
              (repeat (refine hp.N ?_; cbv))
              replace h0 := bnd_inv h0
              obtain ⟨x53, q29, h0⟩ := h0
              (first | refine .inl (hp.C _ (laws_vAt_con _ _ _ _ q29) ?_) | refine .inl ⟨by (first | trivial | exact rfl | exact ⟨rfl, rfl⟩ | exact ⟨rfl, trivial⟩ | exact ⟨trivial, rfl⟩ | (refine ⟨?_, ?_⟩ <;> first | trivial | exact rfl)), hp.C _ (laws_vAt_con _ _ _ _ q29) ?_⟩ | refine hp.C _ (laws_vAt_con _ _ _ _ q29) ?_)
              (cbv; repeat (refine hp.N ?_; cbv))
              replace h0 := grd_inv h0
              obtain ⟨p30, h0⟩ := h0
              refine ⟨by (first | exact p30 | exact ⟨rfl, p30⟩ | exact ⟨p30, trivial⟩ | exact ⟨rfl, p30, trivial⟩ | exact ⟨p30, fun _ _ => rfl⟩ | exact ⟨rfl, fun _ _ => rfl, p30⟩ | exact ⟨fun _ _ => rfl, p30⟩ | exact ⟨rfl, rfl, p30⟩ | trivial | exact rfl | exact ⟨rfl, trivial⟩ | exact ⟨rfl, rfl⟩), ?_⟩
              (repeat (refine hp.N ?_; cbv))
              replace h0 := grd_inv h0
              obtain ⟨p31, h0⟩ := h0
              refine ⟨by (first | exact p31 | exact ⟨rfl, p31⟩ | exact ⟨p31, trivial⟩ | exact ⟨rfl, p31, trivial⟩ | exact ⟨p31, fun _ _ => rfl⟩ | exact ⟨rfl, fun _ _ => rfl, p31⟩ | exact ⟨fun _ _ => rfl, p31⟩ | exact ⟨rfl, rfl, p31⟩ | trivial | exact rfl | exact ⟨rfl, trivial⟩ | exact ⟨rfl, rfl⟩), ?_⟩
              (repeat (refine hp.N ?_; cbv))
              replace h0 := grd_inv h0
              obtain ⟨p32, h0⟩ := h0
              refine ⟨by (first | exact p32 | exact ⟨rfl, p32⟩ | exact ⟨p32, trivial⟩ | exact ⟨rfl, p32, trivial⟩ | exact ⟨p32, fun _ _ => rfl⟩ | exact ⟨rfl, fun _ _ => rfl, p32⟩ | exact ⟨fun _ _ => rfl, p32⟩ | exact ⟨rfl, rfl, p32⟩ | trivial | exact rfl | exact ⟨rfl, trivial⟩ | exact ⟨rfl, rfl⟩), ?_⟩
              (repeat (refine hp.N ?_; cbv))
              replace h0 := grd_inv h0
              obtain ⟨p33, h0⟩ := h0
              (first | refine ⟨fun i hi => (let ⟨c, hc⟩ := p33 i hi; ⟨c, congrArg (fun z => [AV.val (Value.int .u8 z)]) hc⟩), ?_⟩ | refine ⟨⟨rfl, fun i hi => (let ⟨c, hc⟩ := p33 i hi; ⟨c, congrArg (fun z => [AV.val (Value.int .u8 z)]) hc⟩)⟩, ?_⟩)
              (repeat (refine hp.N ?_; cbv))
              replace h0 := bnd_inv h0
              obtain ⟨⟨x54, x55⟩, q34, h0⟩ := h0
              try dsimp only at h0
              (first | refine .inl (hp.C _ (impl_VerifyChecksum_con K _ _ _ q34) ?_) | refine .inl ⟨by (first | trivial | exact rfl | exact ⟨rfl, rfl⟩ | exact ⟨rfl, trivial⟩ | exact ⟨trivial, rfl⟩ | (refine ⟨?_, ?_⟩ <;> first | trivial | exact rfl)), hp.C _ (impl_VerifyChecksum_con K _ _ _ q34) ?_⟩ | refine hp.C _ (impl_VerifyChecksum_con K _ _ _ q34) ?_)
              (cbv; repeat (refine hp.N ?_; cbv))
              replace h0 := cut_inv h0
              obtain ⟨o1, h1, g1⟩ := h0
              refine hp.S (Bool) (fun y => o1 = .inl y) (fun x56 σ => ⟨frS [(0, .any), (2, .val (.bool x56))] 3 0 σ.s, []⟩) ?_ ?_
              · (cbv; repeat (refine hp.N ?_; cbv))
                replace h1 := cnd_inv h1
                rcases h1 with ⟨c35, h1⟩ | ⟨c35, h1⟩
                · subst c35
                  (cbv; repeat (refine hp.N ?_; cbv))
                  replace h1 := cnd_inv h1
                  rcases h1 with ⟨c36, h1⟩ | ⟨c36, h1⟩
                  · rw [c36]
                    (cbv; repeat (refine hp.N ?_; cbv))
                    refine ⟨_, end_eq h1, [], ?_⟩
                    (cbv; repeat (refine hp.N ?_; cbv))
                    (repeat' (first | trivial | exact AB.sub_refl _ | exact AB.sub_any _ | exact rfl | exact AB.cells_eq (fun _ _ _ => rfl) | exact AB.sub_lst rfl (fun _ _ _ => rfl) | exact AB.sub_nil _ | (refine AB.sub_lst rfl ?_; intro i h0 h1; exact absurd (Int.lt_of_le_of_lt h0 h1) (by decide)) | (intro hq; exact absurd hq (by decide)) | exact AB.subLn | refine AB.subLc ?_ ?_ | refine AB.sub_agg ?_ | (refine AB.sub_lst' ?_; intro _ _ _) | exact (fun _ => AB.own_val _ _ (fun _ => rfl)) | (intro i h0 h1; exact absurd (Int.lt_of_le_of_lt h0 h1) (by decide)) | refine ⟨?_, ?_⟩))
                  · rw [c36]
                    (cbv; repeat (refine hp.N ?_; cbv))
                    refine ⟨_, end_eq h1, [], ?_⟩
                    (cbv; repeat (refine hp.N ?_; cbv))
                    (repeat' (first | trivial | exact AB.sub_refl _ | exact AB.sub_any _ | exact rfl | exact AB.cells_eq (fun _ _ _ => rfl) | exact AB.sub_lst rfl (fun _ _ _ => rfl) | exact AB.sub_nil _ | (refine AB.sub_lst rfl ?_; intro i h0 h1; exact absurd (Int.lt_of_le_of_lt h0 h1) (by decide)) | (intro hq; exact absurd hq (by decide)) | exact AB.subLn | refine AB.subLc ?_ ?_ | refine AB.sub_agg ?_ | (refine AB.sub_lst' ?_; intro _ _ _) | exact (fun _ => AB.own_val _ _ (fun _ => rfl)) | (intro i h0 h1; exact absurd (Int.lt_of_le_of_lt h0 h1) (by decide)) | refine ⟨?_, ?_⟩))
                · subst c35
                  (cbv; repeat (refine hp.N ?_; cbv))
                  refine ⟨_, end_eq h1, [], ?_⟩
                  (cbv; repeat (refine hp.N ?_; cbv))
                  (repeat' (first | trivial | exact AB.sub_refl _ | exact AB.sub_any _ | exact rfl | exact AB.cells_eq (fun _ _ _ => rfl) | exact AB.sub_lst rfl (fun _ _ _ => rfl) | exact AB.sub_nil _ | (refine AB.sub_lst rfl ?_; intro i h0 h1; exact absurd (Int.lt_of_le_of_lt h0 h1) (by decide)) | (intro hq; exact absurd hq (by decide)) | exact AB.subLn | refine AB.subLc ?_ ?_ | refine AB.sub_agg ?_ | (refine AB.sub_lst' ?_; intro _ _ _) | exact (fun _ => AB.own_val _ _ (fun _ => rfl)) | (intro i h0 h1; exact absurd (Int.lt_of_le_of_lt h0 h1) (by decide)) | refine ⟨?_, ?_⟩))
              · rintro x56 ho
                subst ho
                replace h0 := g1
                clear h1 g1
                try dsimp only [cutO] at h0
                (cbv; repeat (refine hp.N ?_; cbv))
                obtain rfl := Option.some.inj h0
                (repeat' (first | trivial | exact AB.sub_refl _ | exact AB.sub_any _ | exact rfl | exact AB.cells_eq (fun _ _ _ => rfl) | exact AB.sub_lst rfl (fun _ _ _ => rfl) | exact AB.sub_nil _ | (refine AB.sub_lst rfl ?_; intro i h0 h1; exact absurd (Int.lt_of_le_of_lt h0 h1) (by decide)) | (intro hq; exact absurd hq (by decide)) | exact AB.subLn | refine AB.subLc ?_ ?_ | refine AB.sub_agg ?_ | (refine AB.sub_lst' ?_; intro _ _ _) | exact (fun _ => AB.own_val _ _ (fun _ => rfl)) | (intro i h0 h1; exact absurd (Int.lt_of_le_of_lt h0 h1) (by decide)) | refine ⟨?_, ?_⟩))
end S
end
section
namespace S
open Go AB
def mN (n : Int) : Nat := 2 * n.natAbs + (if n < 0 then 1 else 0)
theorem l1Num_eq (K : Nat) : ∀ (N : Nat) (n : Int), mN n < N → -9223372036854775808 < n → n < 9223372036854775807 → spec_l1Num K N n = some (num n)
  | 0, n, h, _, _ => absurd h (Nat.not_lt_zero _)
  | N + 1, n, h, h0, h1 => by
    have ih : ∀ m, mN m < mN n → -9223372036854775808 < m → m < 9223372036854775807 → spec_l1Num K N m = some (num m) := fun m hm => l1Num_eq K N m (by omega)
    unfold mN at ih
    refine Ret.eq ?_
    simp only [spec_l1Num, ret_cnd, ret_bnd, ret_grd, std_lt', decide_eq_true_eq, decide_eq_false_iff_not, std_nz']
    refine ⟨fun hn => ⟨fun hn2 => ?_, fun hn2 => ?_⟩, fun hn => ⟨fun hn2 => ?_, fun hn2 => ?_⟩⟩
    · rw [std_neg64 (by omega) (by omega), ih (-n) (by rw [if_neg (by omega), if_pos hn]; omega) (by omega) (by omega), ret_some, ret_some]
      have := num_size (-n) (by omega) (by omega)
      exact ⟨by rw [std_cats']; show ((1 : Nat) : Int) + _ ≤ _; omega, (num_negs n hn).symm⟩
    · have hqz : n = 10 * n.tdiv 10 + n.tmod 10 := (Int.mul_tdiv_add_tmod n 10).symm
      have hz0 : n.tmod 10 ≤ 0 := by
        have := Int.tmod_nonneg 10 (show 0 ≤ -n by omega)
        rw [Int.neg_tmod] at this; omega
      have hz1 : -10 < n.tmod 10 := by
        have := Int.tmod_lt_of_pos (-n) (show (0 : Int) < 10 by omega)
        rw [Int.neg_tmod] at this; omega
      have e1 : std.quo .i64 n 10 = n.tdiv 10 := std_wrap64 (by omega) (by omega)
      rw [e1, std_rem', std_neg64 (by omega) (by omega), ih (n.tdiv 10) (by rw [if_pos (by omega), if_pos hn]; omega) (by omega) (by omega), ih (-(n.tmod 10)) (by rw [if_neg (by omega), if_pos hn]; omega) (by omega) (by omega), ret_some, ret_some, ret_some]
      have s1 := num_size (n.tdiv 10) (by omega) (by omega)
      have s2 := num_size (-(n.tmod 10)) (by omega) (by omega)
      exact ⟨by omega, by omega, by rw [std_cats']; omega, (num_neg n (by omega)).symm⟩
    · rw [std_add64 (by omega) (by omega), ret_some]
      exact ⟨by rw [std_cut']; exact ⟨by omega, by omega, by show _ ≤ ((10 : Nat) : Int); omega⟩, (num_dig n (by omega) hn2).symm⟩
    · have hqz : n = 10 * n.tdiv 10 + n.tmod 10 := (Int.mul_tdiv_add_tmod n 10).symm
      have hz0 : 0 ≤ n.tmod 10 := Int.tmod_nonneg 10 (by omega)
      have hz1 : n.tmod 10 < 10 := Int.tmod_lt_of_pos n (by omega)
      have e1 : std.quo .i64 n 10 = n.tdiv 10 := std_wrap64 (by omega) (by omega)
      rw [e1, std_rem', std_add64 (by omega) (by omega), ih (n.tdiv 10) (by rw [if_neg (by omega), if_neg (by omega)]; omega) (by omega) (by omega), ret_some, ret_some]
      have s1 := num_size (n.tdiv 10) (by omega) (by omega)
      have s2 : (bys (std.ssub ⟨#[48, 49, 50, 51, 52, 53, 54, 55, 56, 57]⟩ (n.tmod 10) (n.tmod 10 + 1))).length ≤ 20 := by
        obtain ⟨u, hu⟩ := Int.eq_ofNat_of_zero_le hz0
        have := digs_one u (by omega)
        unfold digs at this
        rw [hu, this]
        exact (by decide : 1 ≤ 20)
      refine ⟨by omega, by omega, by omega, ?_, ?_, (num_pos n (by omega)).symm⟩
      · rw [std_cut']; exact ⟨by omega, by omega, by show _ ≤ ((10 : Nat) : Int); omega⟩
      · rw [std_cats']; omega
theorem itoa_eq {n : Int} (h0 : -9223372036854775808 ≤ n) (h1 : n ≤ 9223372036854775807) : x_Itoa n = some (num n) := by rw [x_Itoa, if_pos ⟨h0, h1⟩]
/-! ### Checksums -/
def sumS (h : Int) (b : UInt8) : Int := (41 * h + b.toNat + 1) % 999979
def sumL (l : List UInt8) : Int := l.foldl sumS 7
theorem sum_bd (l : List UInt8) : ∀ (h : Int), 0 ≤ h → h < 999979 → 0 ≤ l.foldl sumS h ∧ l.foldl sumS h < 999979 := by
  induction l with
  | nil => intro h h0 h1; exact ⟨h0, h1⟩
  | cons b l ih => intro h h0 h1; exact ih (sumS h b) (by unfold sumS; omega) (by unfold sumS; omega)
theorem sumL_bd (l : List UInt8) : 0 ≤ sumL l ∧ sumL l < 999979 := sum_bd l 7 (by omega) (by omega)
theorem sum_take (l : List UInt8) (k : Nat) (h : k < l.length) : sumL (l.take (k + 1)) = sumS (sumL (l.take k)) l[k] := by
  unfold sumL
  rw [List.take_succ_eq_append_getElem h, List.foldl_append]
  rfl
theorem u8_bd (b : UInt8) : (b.toNat : Int) < 256 := by have := b.toNat_lt; omega
theorem sum_step {s : ByteArray} {k : Nat} (hk : k < (bys s).length) :
    std.rem .i64 (std.add .i64 (std.add .i64 (std.mul .i64 41 (sumL ((bys s).take k))) (std.conv .i64 (std.sat s (k : Int)))) 1) 999979 = sumL ((bys s).take (k + 1)) := by
  have b1 := sumL_bd ((bys s).take k)
  have b2 := u8_bd (bys s)[k]
  rw [sum_take _ _ hk, sat_get hk, std_conv64 (by omega) (by omega), std_mul64 (by omega) (by omega), std_add64 (a := 41 * _) (by omega) (by omega), std_add64 (by omega) (by omega), std_rem', Int.tmod_eq_emod_of_nonneg (by omega)]
  rfl
theorem checksum_eq (K : Nat) (s : ByteArray) (hK : (bys s).length < K) (hs : (bys s).length < 1000000) : impl_checksum K s = some (sumL (bys s)) := by
  refine Ret.eq ?_
  simp only [impl_checksum, ret_cut]
  refine ret_loop (fun x => ∃ k : Nat, x = (sumL ((bys s).take k), (k : Int)) ∧ k ≤ (bys s).length) (fun x => (bys s).length - x.2.toNat) ⟨0, rfl, Nat.zero_le _⟩ (by simpa using hK) ?_
  rintro _ ⟨k, rfl, hk⟩
  simp only [impl_checksum_s2, ret_cnd, ret_grd, ret_out, ret_some, std_lt', std_slen', decide_eq_true_eq, decide_eq_false_iff_not, std_isin', std_nz', sum_l, sum_r]
  refine ⟨fun hl => ?_, fun hl => ?_⟩
  · have hk' : k < (bys s).length := by omega
    refine ⟨⟨by omega, hl⟩, by omega, ⟨k + 1, ?_, by omega⟩, ?_⟩
    · rw [sum_step hk', std_add64 (by omega) (by omega)]; rfl
    · rw [std_add64 (by omega) (by omega)]; omega
  · have : k = (bys s).length := by omega
    subst this
    rw [List.take_length]
theorem l1Sum_eq (K : Nat) (s : ByteArray) (hK : (bys s).length < K) (hs : (bys s).length < 1000000) : spec_l1Sum K s = some (sumL (bys s)) := by
  refine Ret.eq ?_
  simp only [spec_l1Sum, ret_cut]
  refine ret_loop (fun x => ∃ k : Nat, x = (sumL ((bys s).take k), (k : Int)) ∧ k ≤ (bys s).length) (fun x => (bys s).length - x.2.toNat) ⟨0, rfl, Nat.zero_le _⟩ (by simpa using hK) ?_
  rintro _ ⟨k, rfl, hk⟩
  simp only [spec_l1Sum_s2, ret_cnd, ret_grd, ret_out, ret_some, std_lt', std_slen', decide_eq_true_eq, decide_eq_false_iff_not, std_isin', std_nz', sum_l, sum_r]
  refine ⟨fun hl => ?_, fun hl => ?_⟩
  · have hk' : k < (bys s).length := by omega
    refine ⟨⟨by omega, hl⟩, by omega, ⟨k + 1, ?_, by omega⟩, ?_⟩
    · rw [sum_step hk', std_add64 (by omega) (by omega)]; rfl
    · rw [std_add64 (by omega) (by omega)]; omega
  · have : k = (bys s).length := by omega
    subst this
    rw [List.take_length]
/-- does '#' stand in it? -/
def hasH (l : List UInt8) : Bool := l.contains 35
theorem take_no {l : List UInt8} {k : Nat} (h : k < l.length) (hc : ¬ l[k] = 35) (hno : hasH (l.take k) = false) : hasH (l.take (k + 1)) = false := by
  unfold hasH at *
  rw [List.take_succ_eq_append_getElem h]
  simp only [List.contains_eq_mem, List.mem_append, decide_eq_false_iff_not, List.mem_singleton] at *
  rintro (hm | hm)
  · exact hno hm
  · exact hc hm.symm
theorem l1Stands_eq (K : Nat) (s : ByteArray) (hK : (bys s).length < K) (hs : (bys s).length < 1000000) : spec_l1Stands K s 35 = some (hasH (bys s)) := by
  refine Ret.eq ?_
  simp only [spec_l1Stands, ret_cut]
  refine ret_loop (fun x => ∃ k : Nat, x = (k : Int) ∧ k ≤ (bys s).length ∧ hasH ((bys s).take k) = false) (fun x => (bys s).length - x.toNat) ⟨0, rfl, Nat.zero_le _, rfl⟩ (by simpa using hK) ?_
  rintro _ ⟨k, rfl, hk, hno⟩
  simp only [spec_l1Stands_s2, ret_cnd, ret_grd, ret_out, ret_some, std_lt', std_slen', std_eq', decide_eq_true_eq, decide_eq_false_iff_not, std_isin', std_nz', sum_l, sum_r]
  refine ⟨fun hl => ?_, fun hl => ?_⟩
  · have hk' : k < (bys s).length := by omega
    refine ⟨⟨by omega, hl⟩, fun hc => ?_, fun hc => ⟨⟨k + 1, ?_, by omega, ?_⟩, ?_⟩⟩
    · rw [sat_get hk'] at hc
      have h35 : (bys s)[k] = 35 := UInt8.toNat_inj.1 (by have : ((35 : UInt8).toNat : Int) = 35 := rfl; omega)
      unfold hasH
      rw [List.contains_eq_mem]
      simp only [true_eq_decide_iff]
      rw [← h35]; exact List.getElem_mem hk'
    · rw [std_add64 (by omega) (by omega)]; rfl
    · refine take_no hk' (fun h35 => hc ?_) hno
      rw [sat_get hk', h35]; rfl
    · rw [std_add64 (by omega) (by omega)]; omega
  · have : k = (bys s).length := by omega
    subst this
    rw [List.take_length] at hno
    exact hno.symm
end S
end
section
namespace S
open Go AB
def sealL (l : List UInt8) : List UInt8 := l ++ 35 :: Lib.itoa (sumL l)
def sealed (s : ByteArray) : ByteArray := std.scat (std.scat s ⟨#[35]⟩) (num (sumL (bys s)))
theorem bys_sealed (s : ByteArray) : bys (sealed s) = sealL (bys s) := by
  unfold sealed sealL
  rw [bys_scat, bys_scat, num_list, List.append_assoc]
  rfl
theorem itoa_len (l : List UInt8) : (Lib.itoa (sumL l)).length ≤ 20 := by
  have b := sumL_bd l
  have := num_size (sumL l) (by omega) (by omega)
  rwa [num_list] at this
def appendF (s : ByteArray) : ByteArray × Bool := if hasH (bys s) = false ∧ (sealL (bys s)).length ≤ 4000 then (sealed s, true) else (⟨#[]⟩, false)
theorem seal_len (l : List UInt8) : (sealL l).length = l.length + 1 + (Lib.itoa (sumL l)).length := by
  unfold sealL; rw [List.length_append, List.length_cons]; omega
theorem l1Seal_eq (K : Nat) (s : ByteArray) (hK : 10000000 ≤ K) (hs : (bys s).length < 1000000) : spec_l1Seal K s = some (sealed s) := by
  have b := sumL_bd (bys s)
  have hl := itoa_len (bys s)
  refine Ret.eq ?_
  simp only [spec_l1Seal, ret_grd, ret_bnd]
  rw [l1Sum_eq K s (by omega) hs, ret_some, l1Num_eq K K _ (by unfold mN; rw [if_neg (by omega)]; omega) (by omega) (by omega), ret_some, ret_some]
  refine ⟨?_, ?_, rfl⟩
  · rw [std_cats']; show _ + ((1 : Nat) : Int) ≤ _; omega
  · rw [std_cats']
    have e1 := congrArg List.length (bys_scat s ⟨#[35]⟩)
    have e2 := congrArg List.length (num_list (sumL (bys s)))
    rw [List.length_append] at e1
    have e3 : (bys ⟨#[35]⟩).length = 1 := rfl
    omega
theorem contains_hasH (l : List UInt8) : Lib.contains l [35] = hasH l := by
  rw [Lib.contains, Lib.index_one, ← Lib.contains_iff_indexByte]
  rfl
theorem implAppend_eq (K : Nat) (s : ByteArray) (hK : 10000000 ≤ K) (hs : (bys s).length < 1000000) : impl_AppendChecksum K s = some (appendF s) := by
  have b := sumL_bd (bys s)
  have hl := itoa_len (bys s)
  refine Ret.eq ?_
  simp only [impl_AppendChecksum, ret_grd, ret_bnd]
  rw [checksum_eq K s (by omega) hs, ret_some, itoa_eq (by omega) (by omega), ret_some]
  have e0 : (bys (std.scat (std.scat s ⟨#[35]⟩) (num (sumL (bys s))))).length = (sealL (bys s)).length := congrArg List.length (bys_sealed s)
  refine ⟨?_, ?_, ?_⟩
  · rw [std_cats']; show _ + ((1 : Nat) : Int) ≤ _; omega
  · rw [std_cats']
    have e1 := congrArg List.length (bys_scat s ⟨#[35]⟩)
    have e2 := congrArg List.length (num_list (sumL (bys s)))
    rw [List.length_append] at e1
    have e3 : (bys ⟨#[35]⟩).length = 1 := rfl
    omega
  · simp only [ret_cut, ret_bnd, ret_cnd]
    rw [x_Contains, if_pos (by show (bys s).length < _; omega), ret_some]
    have e4 : Lib.contains s.data.toList (ByteArray.mk #[35]).data.toList = hasH (bys s) := contains_hasH (bys s)
    rw [e4]
    have e5 : std.lt 4000 (std.slen (std.scat (std.scat s ⟨#[35]⟩) (num (sumL (bys s))))) = decide (4000 < (sealL (bys s)).length) := by
      rw [std_lt', std_slen']
      rw [e0]
      by_cases h : 4000 < (sealL (bys s)).length
      · simp [h] <;> (try omega)
      · simp [h] <;> (try omega)
    rw [e5]
    simp only [ret_some, sum_l, ret_cnd]
    cases hh : hasH (bys s)
    · by_cases h4 : 4000 < (sealL (bys s)).length
      · simp [h4, appendF, hh] <;> (try omega)
      · simp [h4, appendF, hh, sealed] <;> (try omega)
    · simp [appendF, hh]
theorem specAppend_eq (K : Nat) (s : ByteArray) (hK : 10000000 ≤ K) (hs : (bys s).length < 1000000) : spec_AppendChecksum K s = some (appendF s) := by
  refine Ret.eq ?_
  simp only [spec_AppendChecksum, ret_cut, ret_cnd, ret_bnd]
  rw [l1Stands_eq K s (by omega) hs, ret_some, l1Seal_eq K s hK hs]
  have hl := seal_len (bys s)
  have e4 : std.lt 4000 (std.slen s) = decide (4000 < (bys s).length) := by
    rw [std_lt', std_slen']
    by_cases h : 4000 < (bys s).length <;> simp [h] <;> (try omega)
  have e5 : std.lt 4000 (std.slen (sealed s)) = decide (4000 < (sealL (bys s)).length) := by
    rw [std_lt', std_slen', ← bys_sealed]
    by_cases h : 4000 < (bys (sealed s)).length <;> simp [h] <;> (try omega)
  rw [e4]
  simp only [ret_some, sum_l, ret_cnd, ret_bnd]
  rw [e5]
  cases hh : hasH (bys s)
  · by_cases h3 : 4000 < (bys s).length
    · simp [h3, appendF, hh] <;> (try omega)
    · by_cases h4 : 4000 < (sealL (bys s)).length
      · simp [h3, h4, appendF, hh] <;> (try omega)
      · simp [h3, h4, appendF, hh] <;> (try omega)
  · simp [appendF, hh]
/-! ### Cut at '#' -/
def bef (l : List UInt8) : List UInt8 := l.takeWhile (· != 35)
theorem cut_bef : ∀ l : List UInt8, (Lib.cut l [35]).1 = bef l := by
  intro l
  have h : ∀ l : List UInt8, (if 0 ≤ Lib.indexByte l 35 then l.take (Lib.indexByte l 35).toNat else l) = bef l := by
    intro l
    induction l with
    | nil => rfl
    | cons b l ih =>
      have hge := Lib.indexByte_ge l 35
      unfold bef at *
      rw [List.takeWhile_cons]
      simp only [Lib.indexByte]
      by_cases hb : b = 35
      · subst hb; simp
      · have hb2 : (b == 35) = false := by simpa using hb
        have hb3 : (b != 35) = true := by simpa using hb
        simp only [hb2, hb3, Bool.false_eq_true, if_false, if_true]
        by_cases h1 : Lib.indexByte l 35 = -1
        · rw [h1] at ih ⊢
          simp only [beq_self_eq_true, if_true]
          simp only [show ¬ (0 : Int) ≤ -1 from by omega, if_false] at ih ⊢
          rw [← ih]
        · have h2 : (Lib.indexByte l 35 == -1) = false := by simpa using h1
          simp only [h2, Bool.false_eq_true, if_false]
          rw [if_pos (by omega)] at ih ⊢
          have h3 : (Lib.indexByte l 35 + 1).toNat = (Lib.indexByte l 35).toNat + 1 := by omega
          rw [h3, List.take_succ_cons, ih]
  have := h l
  rw [← this, Lib.cut, Lib.index_one]
  split <;> rfl
theorem bef_app {x r : List UInt8} (hx : hasH x = false) : bef (x ++ 35 :: r) = x := by
  induction x with
  | nil => rfl
  | cons b x ih =>
    unfold hasH at *
    rw [List.contains_cons] at hx
    simp only [Bool.or_eq_false_iff] at hx
    have hb : (b != 35) = true := by have := hx.1; simp at this ⊢; exact fun e => this e.symm
    show (b :: (x ++ 35 :: r)).takeWhile (· != 35) = _
    rw [List.takeWhile_cons, hb]
    simp only [if_true]
    rw [show (x ++ 35 :: r).takeWhile (· != 35) = x from ih hx.2]
theorem bef_no {x : List UInt8} (hx : hasH x = false) : bef x = x := by
  induction x with
  | nil => rfl
  | cons b x ih =>
    unfold hasH at *
    rw [List.contains_cons] at hx
    simp only [Bool.or_eq_false_iff] at hx
    have hb : (b != 35) = true := by have := hx.1; simp at this ⊢; exact fun e => this e.symm
    show (b :: x).takeWhile (· != 35) = _
    rw [List.takeWhile_cons, hb]
    simp only [if_true]
    rw [show x.takeWhile (· != 35) = x from ih hx.2]
theorem bef_le (x : List UInt8) : (bef x).length ≤ x.length := (List.takeWhile_prefix _).length_le
def mkB (l : List UInt8) : ByteArray := ⟨l.toArray⟩
theorem bys_mkB (l : List UInt8) : bys (mkB l) = l := by simp [bys, mkB]
theorem mkB_bys (s : ByteArray) : mkB (bys s) = s := bys_ext (bys_mkB _)
def verifyF (y : ByteArray) : ByteArray × Bool :=
  if (appendF (mkB (bef (bys y)))).2 = true ∧ (appendF (mkB (bef (bys y)))).1 = y then (mkB (bef (bys y)), true) else (⟨#[]⟩, false)
theorem verify_eq (K : Nat) (y : ByteArray) (hK : 10000000 ≤ K) (hs : (bys y).length < 1000000) : impl_VerifyChecksum K y = some (verifyF y) := by
  refine Ret.eq ?_
  simp only [impl_VerifyChecksum, ret_bnd]
  rw [x_Cut, if_pos (by show (bys y).length < _; omega), ret_some]
  simp only []
  have e1 : (⟨(Lib.cut y.data.toList (ByteArray.mk #[35]).data.toList).1.toArray⟩ : ByteArray) = mkB (bef (bys y)) := congrArg mkB (cut_bef (bys y))
  rw [e1, implAppend_eq K _ hK (by rw [bys_mkB]; have := bef_le (bys y); omega), ret_some]
  unfold verifyF
  obtain ⟨a, b⟩ := appendF (mkB (bef (bys y)))
  simp only [ret_cut, ret_cnd, ret_some, sum_l, std_bnot', seq_dec]
  cases b
  · simp
  · by_cases h : a = y <;> simp [h]
end S
end
