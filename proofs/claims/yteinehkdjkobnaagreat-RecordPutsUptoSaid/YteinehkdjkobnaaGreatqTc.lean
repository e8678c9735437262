/-
Operations and configurations put behind other bytes and read among others: the law of RecordPuts.
-/
import Derived.Test.YteinehkdjkobnaaGreatqTb
import Derived.KernelRfl
set_option linter.unusedVariables false
set_option linter.unusedSimpArgs false
namespace Go.Proofs.YteinehkdjkobnaaGreat
open Go Go.Ev
section
variable {N : Nat} {B : List Int}
def opz : GOp := ⟨⟨0, 0⟩, 0, 0, 0, [], [], []⟩
theorem takeOp_eq (hN : 20 ≤ N) {c : List Int} (hB : okB B) (h : c <:+ B) : Frecord_TakeOp_d95 N ⟨true, c⟩ =
    some (if (rdO sm (0, c)).2.1 ≠ 0 then (opz, (rdO sm (0, c)).2.1, ⟨true, c⟩) else if MayOp (rdO sm (0, c)).1 then ((rdO sm (0, c)).1, 0, ⟨true, (rdO sm (0, c)).2.2⟩) else (opz, 40, ⟨true, c⟩)) := by
  unfold Frecord_TakeOp_d95 Frecord_taken_bd1 Frecord_TakeOp_1_a5c
  rw [end_eq, Option.bind_some]
  have hne : ((if 0 < (c.length : Int) then (13 : Int) else 0) == 2) = false := by split <;> rfl
  simp only [hne, cond_false]
  rw [op_read (s := (0, c)) (by omega) hB h, Option.bind_some, checkOp_eq (by omega)]
  simp only [Option.bind_some]
  generalize rdO sm (0, c) = r
  obtain ⟨e, x, d⟩ := r
  simp only
  by_cases hm : MayOp e
  · rw [if_pos hm]
    by_cases hx : x = 0
    · subst hx; rw [if_neg (by simp), if_pos hm]; rfl
    · have hx' : (x == 0) = false := by simpa using hx
      rw [if_pos hx]
      simp only [Option.bind_some, hx', Bool.not_false, cond_true]; rfl
  · rw [if_neg hm]
    by_cases hx : x = 0
    · subst hx; rw [if_neg (by simp), if_neg hm]; rfl
    · have hx' : (x == 0) = false := by simpa using hx
      rw [if_pos hx]
      simp only [Option.bind_some, hx', Bool.not_false, cond_true]; rfl
theorem errno_eq (N : Nat) (m : Bool) (q : Gorchardref04_Reader) : Flaw04_errno_735 N m q = some (if q.E = 0 ∧ m = false then 40 else q.E, q) := by
  unfold Flaw04_errno_735
  by_cases h : q.E = 0
  · cases m
    · rw [if_pos ⟨h, rfl⟩, show (q.E == 0) = true by simpa using h]; rfl
    · rw [if_neg (by simp), show (q.E == 0) = true by simpa using h]; rfl
  · rw [if_neg (fun q => h q.1), show (q.E == 0) = false by simpa using h]; rfl
theorem opTake (hN : 20 ≤ N) {c : List Int} (hB : okB B) (h : c <:+ B) : ∃ x e d y q m, Frecord_TakeOp_d95 N ⟨true, c⟩ = some (x, e, ⟨true, d⟩) ∧ Fref04_Reader_Op_4b9 N (rfR B (0, c)) = some (y, q) ∧ Fref04_MayOp N y = some m ∧
    Flaw04_errno_735 N m q = some (e, q) ∧ d <:+ B ∧ ((e ≠ 0 ∧ x = opz ∧ d = c) ∨ (e = 0 ∧ x = y ∧ q = rfR B (0, d))) := by
  have hs := rdO_st sm smr (0, c)
  have hsuf : (rdO sm (0, c)).2.2 <:+ B := by
    have h1 := rd1_ok (s := (0, c)) h
    exact rdT_ok (rdT_ok (rdT_ok (rd1_ok (rd1_ok (rd1_ok (rd1_ok h1))))))
  have hm := rdO_may (s := (0, c))
  have he := rdO_eq (s := (0, c))
  rw [takeOp_eq hN hB h, refop_read (s := (0, c)) (by omega) hB h]
  by_cases hx : (rdO sm (0, c)).2.1 = 0
  case neg =>
    rw [if_pos hx]
    refine ⟨_, _, _, _, _, _, rfl, rfl, refMayOp_eq _, ?_, h, .inl ⟨hx, rfl, rfl⟩⟩
    rw [errno_eq, if_neg, ← hs]; rfl
    rw [← hs]; exact fun q => hx q.1
  rw [if_neg (by simpa using hx)]
  by_cases hp : MayOp (rdO sm (0, c)).1
  · rw [if_pos hp]
    refine ⟨_, _, _, _, _, _, rfl, rfl, refMayOp_eq _, ?_, hsuf, .inr ⟨rfl, by rw [he hp], ?_⟩⟩
    · rw [errno_eq, if_neg, ← hs]
      · show some ((rdO sm (0, c)).2.1, _) = _
        rw [hx]
      · rw [decide_eq_true (hm.1 hp)]; simp
    · rw [← hs]
      have : (rdO sm (0, c)).2 = (0, (rdO sm (0, c)).2.2) := Prod.ext hx rfl
      rw [this]
  · rw [if_neg hp]
    refine ⟨_, _, _, _, _, _, rfl, rfl, refMayOp_eq _, ?_, h, .inl ⟨by decide, rfl, rfl⟩⟩
    rw [errno_eq, if_pos]
    exact ⟨by rw [← hs]; exact hx, decide_eq_false (fun q => hp (hm.2 q))⟩
theorem epTake (hN : 20 ≤ N) {c : List Int} (hB : okB B) (h : c <:+ B) : ∃ x e d y q m, Frecord_TakeEpoch_d95 N ⟨true, c⟩ = some (x, e, ⟨true, d⟩) ∧ Fref04_Reader_Epoch_4b9 N (rfR B (0, c)) = some (y, q) ∧ Fref04_MayEpoch N y = some m ∧
    Flaw04_errno_735 N m q = some (e, q) ∧ d <:+ B ∧ ((e ≠ 0 ∧ x = z0 ∧ d = c) ∨ (e = 0 ∧ x = y ∧ q = rfR B (0, d))) := by
  have hs := rdE_st sm smr (0, c)
  have hsuf : (rdE sm (0, c)).2.2 <:+ B := by
    have h1 := rd1_ok (s := (0, c)) h
    exact rdv_ok (rdv_ok (rdv_ok h1 sm z8 8) id z8 8) sm z8 8
  have hm := mE_may (s := (0, c))
  have he := mE_eq (s := (0, c))
  rw [take_eq hN hB h, refepoch_eq (s := (0, c)) (by omega) hB h]
  by_cases hx : (rdE sm (0, c)).2.1 = 0
  case neg =>
    rw [if_pos hx]
    refine ⟨_, _, _, _, _, _, rfl, rfl, refMayEpoch_eq hN _, ?_, h, .inl ⟨hx, rfl, rfl⟩⟩
    rw [errno_eq, if_neg, ← hs]; rfl
    rw [← hs]; exact fun q => hx q.1
  rw [if_neg (by simpa using hx)]
  by_cases hp : MayEp (rdE sm (0, c)).1
  · rw [if_pos hp]
    refine ⟨_, _, _, _, _, _, rfl, rfl, refMayEpoch_eq hN _, ?_, hsuf, .inr ⟨rfl, by rw [he hp], ?_⟩⟩
    · rw [errno_eq, if_neg, ← hs]
      · show some ((rdE sm (0, c)).2.1, _) = _
        rw [hx]
      · rw [decide_eq_true (hm.1 hp)]; simp
    · rw [← hs]
      have : (rdE sm (0, c)).2 = (0, (rdE sm (0, c)).2.2) := Prod.ext hx rfl
      rw [this]
  · rw [if_neg hp]
    refine ⟨_, _, _, _, _, _, rfl, rfl, refMayEpoch_eq hN _, ?_, h, .inl ⟨by decide, rfl, rfl⟩⟩
    rw [errno_eq, if_pos]
    exact ⟨by rw [← hs]; exact hx, decide_eq_false (fun q => hp (hm.2 q))⟩
theorem op_same (a : GOp) : ((((a.Stamp.Time == a.Stamp.Time) && (a.Stamp.Site == a.Stamp.Site)) && ((a.Kind == a.Kind) && ((a.Node == a.Node) && ((a.Parent == a.Parent) && ((a.Name == a.Name) && ((a.Key == a.Key) && (a.Value == a.Value)))))))) = true := by simp
theorem opz_same : ((((opz.Stamp.Time == 0) && (opz.Stamp.Site == 0)) && ((opz.Kind == 0) && ((opz.Node == 0) && ((opz.Parent == 0) && ((opz.Name == []) && ((opz.Key == []) && (opz.Value == []))))))) ) = true := by rfl
theorem ep_same2 (a : GEpoch) : ((vbeq beq3 a.States a.States) && ((vbeq beq2 a.Seals a.Seals) && (vbeq beq3 a.Sponsor a.Sponsor))) = true := by
  simp [vbeq_self beq2_iff, vbeq_self beq3_iff]
theorem z0_same : ((z0.Number == 0) && ((vbeq beq3 z0.States (Vector.replicate 8 (default : Int))) && ((vbeq beq2 z0.Seals (Vector.replicate 8 (default : Int))) && (vbeq beq3 z0.Sponsor (Vector.replicate 8 (default : Int)))))) = true := by kernel_rfl
theorem left_eq (N : Nat) (d : List Int) : Fwire_Reader_Left_d95 N ⟨true, d⟩ = some ((d.length : Int), ⟨true, d⟩) := rfl
theorem at_eq {d : List Int} (hB : okB B) (h : d <:+ B) : IntKind.i64.wrap ((B.length : Int) - (rfR B (0, d)).At) = (d.length : Int) := by
  have h1 := List.IsSuffix.length_le h
  have h2 := hB.1
  unfold rfR
  simp only
  rw [wrap64 (by omega) (by omega)]; omega
def tailF (N : Nat) (b : List Int) : Option Bool :=
 ((Fwire_NewReader N b).bind fun r11 =>
  ((Frecord_TakeOp_d95 N r11).bind fun r12 =>
  ((Fref04_Reader_Op_4b9 N (⟨b, 0, 0⟩ : Gorchardref04_Reader)).bind fun r13 =>
  ((Fref04_MayOp N r13.1).bind fun r14 =>
  ((Flaw04_errno_735 N r14 r13.2).bind fun r15 =>
  (bif (!(r12.2.1 == r15.1)) then
  (some false)
  else
  (bif (!(r12.2.1 == 0)) then
  ((Frecord_TakeEpoch_d95 N r12.2.2).bind fun r16 =>
  ((Fref04_Reader_Epoch_4b9 N (⟨b, 0, 0⟩ : Gorchardref04_Reader)).bind fun r17 =>
  ((Fref04_MayEpoch N r17.1).bind fun r18 =>
  ((Flaw04_errno_735 N r18 r17.2).bind fun r19 =>
  (bif (!(r16.2.1 == r19.1)) then
  (some false)
  else
  (bif (!(r16.2.1 == 0)) then
  (bif ((((r12.1.Stamp.Time == 0) && (r12.1.Stamp.Site == 0)) && ((r12.1.Kind == 0) && ((r12.1.Node == 0) && ((r12.1.Parent == 0) && ((r12.1.Name == []) && ((r12.1.Key == []) && (r12.1.Value == []))))))) && ((r16.1.Number == 0) && ((vbeq beq3 r16.1.States (Vector.replicate 8 (default : Int))) && ((vbeq beq2 r16.1.Seals (Vector.replicate 8 (default : Int))) && (vbeq beq3 r16.1.Sponsor (Vector.replicate 8 (default : Int))))))) then
  ((Fwire_Reader_Left_d95 N r16.2.2).bind fun r20 =>
  (some (((((r12.1.Stamp.Time == 0) && (r12.1.Stamp.Site == 0)) && ((r12.1.Kind == 0) && ((r12.1.Node == 0) && ((r12.1.Parent == 0) && ((r12.1.Name == []) && ((r12.1.Key == []) && (r12.1.Value == []))))))) && ((r16.1.Number == 0) && ((vbeq beq3 r16.1.States (Vector.replicate 8 (default : Int))) && ((vbeq beq2 r16.1.Seals (Vector.replicate 8 (default : Int))) && (vbeq beq3 r16.1.Sponsor (Vector.replicate 8 (default : Int))))))) && (r20.1 == (IntKind.i64.wrap (((b).length : Int) - 0))))))
  else
  (some false))
  else
  (bif ((((r12.1.Stamp.Time == 0) && (r12.1.Stamp.Site == 0)) && ((r12.1.Kind == 0) && ((r12.1.Node == 0) && ((r12.1.Parent == 0) && ((r12.1.Name == []) && ((r12.1.Key == []) && (r12.1.Value == []))))))) && ((r16.1.Number == r17.1.Number) && ((vbeq beq3 r16.1.States r17.1.States) && ((vbeq beq2 r16.1.Seals r17.1.Seals) && (vbeq beq3 r16.1.Sponsor r17.1.Sponsor))))) then
  ((Fwire_Reader_Left_d95 N r16.2.2).bind fun r21 =>
  (some (((((r12.1.Stamp.Time == 0) && (r12.1.Stamp.Site == 0)) && ((r12.1.Kind == 0) && ((r12.1.Node == 0) && ((r12.1.Parent == 0) && ((r12.1.Name == []) && ((r12.1.Key == []) && (r12.1.Value == []))))))) && ((r16.1.Number == r17.1.Number) && ((vbeq beq3 r16.1.States r17.1.States) && ((vbeq beq2 r16.1.Seals r17.1.Seals) && (vbeq beq3 r16.1.Sponsor r17.1.Sponsor))))) && (r21.1 == (IntKind.i64.wrap (((b).length : Int) - r19.2.At))))))
  else
  (some false))))))))
  else
  ((Frecord_TakeEpoch_d95 N r12.2.2).bind fun r22 =>
  ((Fref04_Reader_Epoch_4b9 N r15.2).bind fun r23 =>
  ((Fref04_MayEpoch N r23.1).bind fun r24 =>
  ((Flaw04_errno_735 N r24 r23.2).bind fun r25 =>
  (bif (!(r22.2.1 == r25.1)) then
  (some false)
  else
  (bif (!(r22.2.1 == 0)) then
  (bif ((((r12.1.Stamp.Time == r13.1.Stamp.Time) && (r12.1.Stamp.Site == r13.1.Stamp.Site)) && ((r12.1.Kind == r13.1.Kind) && ((r12.1.Node == r13.1.Node) && ((r12.1.Parent == r13.1.Parent) && ((r12.1.Name == r13.1.Name) && ((r12.1.Key == r13.1.Key) && (r12.1.Value == r13.1.Value))))))) && ((r22.1.Number == 0) && ((vbeq beq3 r22.1.States (Vector.replicate 8 (default : Int))) && ((vbeq beq2 r22.1.Seals (Vector.replicate 8 (default : Int))) && (vbeq beq3 r22.1.Sponsor (Vector.replicate 8 (default : Int))))))) then
  ((Fwire_Reader_Left_d95 N r22.2.2).bind fun r26 =>
  (some (((((r12.1.Stamp.Time == r13.1.Stamp.Time) && (r12.1.Stamp.Site == r13.1.Stamp.Site)) && ((r12.1.Kind == r13.1.Kind) && ((r12.1.Node == r13.1.Node) && ((r12.1.Parent == r13.1.Parent) && ((r12.1.Name == r13.1.Name) && ((r12.1.Key == r13.1.Key) && (r12.1.Value == r13.1.Value))))))) && ((r22.1.Number == 0) && ((vbeq beq3 r22.1.States (Vector.replicate 8 (default : Int))) && ((vbeq beq2 r22.1.Seals (Vector.replicate 8 (default : Int))) && (vbeq beq3 r22.1.Sponsor (Vector.replicate 8 (default : Int))))))) && (r26.1 == (IntKind.i64.wrap (((b).length : Int) - r15.2.At))))))
  else
  (some false))
  else
  (bif ((((r12.1.Stamp.Time == r13.1.Stamp.Time) && (r12.1.Stamp.Site == r13.1.Stamp.Site)) && ((r12.1.Kind == r13.1.Kind) && ((r12.1.Node == r13.1.Node) && ((r12.1.Parent == r13.1.Parent) && ((r12.1.Name == r13.1.Name) && ((r12.1.Key == r13.1.Key) && (r12.1.Value == r13.1.Value))))))) && ((r22.1.Number == r23.1.Number) && ((vbeq beq3 r22.1.States r23.1.States) && ((vbeq beq2 r22.1.Seals r23.1.Seals) && (vbeq beq3 r22.1.Sponsor r23.1.Sponsor))))) then
  ((Fwire_Reader_Left_d95 N r22.2.2).bind fun r27 =>
  (some (((((r12.1.Stamp.Time == r13.1.Stamp.Time) && (r12.1.Stamp.Site == r13.1.Stamp.Site)) && ((r12.1.Kind == r13.1.Kind) && ((r12.1.Node == r13.1.Node) && ((r12.1.Parent == r13.1.Parent) && ((r12.1.Name == r13.1.Name) && ((r12.1.Key == r13.1.Key) && (r12.1.Value == r13.1.Value))))))) && ((r22.1.Number == r23.1.Number) && ((vbeq beq3 r22.1.States r23.1.States) && ((vbeq beq2 r22.1.Seals r23.1.Seals) && (vbeq beq3 r22.1.Sponsor r23.1.Sponsor))))) && (r27.1 == (IntKind.i64.wrap (((b).length : Int) - r25.2.At))))))
  else
  (some false)))))))))))))))
theorem tail_eq (hN : 20 ≤ N) (hB : okB B) : tailF N B = some true := by
  unfold tailF Fwire_NewReader
  rw [F43_eq hB.1, Option.bind_some, Option.bind_some]
  obtain ⟨x, e, d, y, q, m, h1, h2, h3, h4, h5, h6⟩ := opTake hN hB (List.suffix_refl B)
  have hz : (⟨B, 0, 0⟩ : Gorchardref04_Reader) = rfR B (0, B) := by unfold rfR; simp
  rw [hz, h1, h2]
  simp only [Option.bind_some]
  rw [h3]
  simp only [Option.bind_some]
  rw [h4]
  simp only [Option.bind_some, beq_self_eq_true, Bool.not_true, cond_false]
  rcases h6 with ⟨e0, rfl, rfl⟩ | ⟨rfl, rfl, rfl⟩
  · have he : (e == 0) = false := by simpa using e0
    rw [he]
    simp only [Bool.not_false, cond_true]
    obtain ⟨x', e', d', y', q', m', g1, g2, g3, g4, g5, g6⟩ := epTake hN hB h5
    rw [g1, g2]
    simp only [Option.bind_some]
    rw [g3]
    simp only [Option.bind_some]
    rw [g4]
    simp only [Option.bind_some, beq_self_eq_true, Bool.not_true, cond_false]
    rcases g6 with ⟨e0', rfl, rfl⟩ | ⟨rfl, rfl, rfl⟩
    · have he' : (e' == 0) = false := by simpa using e0'
      rw [he']
      simp only [Bool.not_false, cond_true, opz_same, z0_same, Bool.and_self, left_eq, Option.bind_some, Bool.true_and]
      have := hB.1
      rw [wrap64 (by omega) (by omega)]; simp
    · simp only [beq_self_eq_true, Bool.not_true, cond_false, opz_same, ep_same2, Bool.and_self, Bool.true_and, cond_true, left_eq, Option.bind_some, Bool.true_and]
      rw [at_eq hB g5]; simp
  · simp only [beq_self_eq_true, Bool.not_true, cond_false]
    obtain ⟨x', e', d', y', q', m', g1, g2, g3, g4, g5, g6⟩ := epTake hN hB h5
    rw [g1, g2]
    simp only [Option.bind_some]
    rw [g3]
    simp only [Option.bind_some]
    rw [g4]
    simp only [Option.bind_some, beq_self_eq_true, Bool.not_true, cond_false]
    rcases g6 with ⟨e0', rfl, rfl⟩ | ⟨rfl, rfl, rfl⟩
    · have he' : (e' == 0) = false := by simpa using e0'
      rw [he']
      simp only [Bool.not_false, cond_true, op_same, z0_same, Bool.and_self, left_eq, Option.bind_some, Bool.true_and]
      rw [at_eq hB g5]; simp
    · simp only [beq_self_eq_true, Bool.not_true, cond_false, op_same, ep_same2, Bool.and_self, Bool.true_and, cond_true, left_eq, Option.bind_some, Bool.true_and]
      rw [at_eq hB g5]; simp
theorem putEp_not (hN : 20 ≤ N) {o : GEpoch} (ho : ¬ MayEp o) {w : List Int} (hw : w.length ≤ 1048576) : Frecord_PutEpoch_26c N o true w = some (40, true, w) := by
  unfold Frecord_PutEpoch_26c
  rw [made_eq hN hw, Option.bind_some, checkEpoch_eq hN, if_neg ho]; rfl
theorem equal_self (N : Nat) (l : List Int) : Fbytes_Equal N l l = some true := by simp [Fbytes_Equal]
theorem puts_law (hN : 60 ≤ N) (op : GOp) (x : GEpoch) {b : List Int} (hl : b.length ≤ 70368744177664) (hb : ∀ y ∈ b, byteR y) : Flaw04_RecordPuts N op x b = some true := by
  have ht := tail_eq (N := N) (B := b) (by omega) ⟨hl, hb⟩
  unfold tailF at ht
  unfold Flaw04_RecordPuts
  rw [show Fwire_NewWriter N = some (true, []) from rfl, begun_eq hN]
  simp only [Option.bind_some, Bool.not_true, Bool.false_and, cond_false]
  rw [putOp_eq (by omega) op (by simp), refCheckOp_eq]
  simp only [Option.bind_some]
  by_cases ho : MayOp op
  · have hlen := opB_len ho
    rw [if_pos ho, if_pos ho, if_pos (by simp only [List.length_nil]; omega)]
    simp only [beq_self_eq_true, Bool.not_true, cond_false, cond_true, List.nil_append]
    rw [opForm_eq (by omega) ho, Option.bind_some, lenB_of (by omega), cond_true, refCheckEpoch_eq (by omega)]
    by_cases hx : MayEp x
    · have hl2 := epB_len hx
      rw [putEp_eq (by omega) hx (by omega), if_pos hx]
      simp only [Option.bind_some, beq_self_eq_true, Bool.not_true, cond_false, cond_true]
      rw [epochForm_eq (by omega) hx, Option.bind_some, lenB_of (by omega), cond_true, F20_eq (by rw [List.length_append]; omega), Option.bind_some, equal_self]
      simp only [Option.bind_some, Bool.not_true, cond_false]
      exact ht
    · rw [putEp_not (by omega) hx (by omega), if_neg hx]
      simp only [Option.bind_some, beq_self_eq_true, Bool.not_true, cond_false]
      rw [show ((40 : Int) == 0) = false from rfl, cond_false, F20_eq (by omega), Option.bind_some, equal_self]
      simp only [Option.bind_some, Bool.not_true, cond_false]
      exact ht
  · rw [if_neg ho, if_neg ho]
    simp only [beq_self_eq_true, Bool.not_true, cond_false]
    rw [show ((40 : Int) == 0) = false from rfl, cond_false, refCheckEpoch_eq (by omega)]
    by_cases hx : MayEp x
    · have hl2 := epB_len hx
      rw [putEp_eq (by omega) hx (by simp), if_pos hx]
      simp only [Option.bind_some, beq_self_eq_true, Bool.not_true, cond_false, cond_true, List.nil_append]
      rw [epochForm_eq (by omega) hx, Option.bind_some, lenB_of (by omega), cond_true, F20_eq (by omega), Option.bind_some, equal_self]
      simp only [Option.bind_some, Bool.not_true, cond_false]
      exact ht
    · rw [putEp_not (by omega) hx (by simp), if_neg hx]
      simp only [Option.bind_some, beq_self_eq_true, Bool.not_true, cond_false]
      rw [show ((40 : Int) == 0) = false from rfl, cond_false, F20_eq (by simp), Option.bind_some, equal_self]
      simp only [Option.bind_some, Bool.not_true, cond_false]
      exact ht
end
end Go.Proofs.YteinehkdjkobnaaGreat
