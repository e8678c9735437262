/-
Plain laws of another seat, turned to this one by wip/tools/ren2.py.
-/
import Derived.Test.YtekpjhhbmjcbmaaqFr
import Derived.Test.YtekpjhhbmjcbmaaqRd
import Derived.Test.YtekpjhhbmjcbmaaqWrp
import Derived.Laws.BitsAllLaws
set_option linter.unusedVariables false
set_option linter.unusedSimpArgs false
namespace Go.Proofs.Ytekpjhhbmjcbmaa
open Go Go.Ev
def byteR (b : Int) : Prop := 0 ≤ b ∧ b ≤ 255
def vint (u : Nat) : List Int := if h : u < 128 then [(u : Int)] else ((u % 128 + 128 : Nat) : Int) :: vint (u / 128)
  termination_by u
  decreasing_by omega
theorem vint_lt {u : Nat} (h : u < 128) : vint u = [(u : Int)] := by rw [vint, dif_pos h]
theorem vint_ge {u : Nat} (h : 128 ≤ u) : vint u = ((u % 128 + 128 : Nat) : Int) :: vint (u / 128) := by rw [vint, dif_neg (by omega)]
theorem vint_byte : ∀ (k u : Nat), u < 128 ^ (k + 1) → ∀ b ∈ vint u, byteR b
  | k, u, h, b, hb => by
    by_cases hu : u < 128
    · rw [vint_lt hu] at hb; simp at hb; subst hb; exact ⟨by omega, by omega⟩
    · rw [vint_ge (by omega)] at hb
      rcases List.mem_cons.1 hb with rfl | hb
      · exact ⟨by omega, by omega⟩
      · cases k with
        | zero => simp at h; omega
        | succ k =>
          have : u / 128 < 128 ^ (k + 1) := by rw [Nat.div_lt_iff_lt_mul (by decide)]; rw [← Nat.pow_succ]; exact h
          exact vint_byte k _ this b hb
def zig (n : Int) : Nat := if n < 0 then (-2 * n - 1).toNat else (2 * n).toNat
def R64 (n : Int) : Prop := -9223372036854775808 ≤ n ∧ n ≤ 9223372036854775807
theorem zig_lt {n : Int} (h : R64 n) : zig n < 18446744073709551616 := by have h1 := h.1; have h2 := h.2; unfold zig; split <;> omega
theorem F43_eq {N : Nat} {l : List Int} (h : l.length ≤ 70368744177664) : Fslices_Clone_byte N l = some l := by
  unfold Fslices_Clone_byte Fslices_Clone_byte_c35
  rw [lenB_of (by omega)]
  rfl
section
variable {N : Nat} {b : List Int}
end
section
variable {N : Nat} {w : List Int}
end
def put1 (s : Int × List Int) (x : List Int) : Int × List Int := if s.2.length + x.length ≤ 1048576 then (s.1, s.2 ++ x) else (if s.1 = 0 then 3 else s.1, s.2)
def wr (e : Int) (w : List Int) (cs : List (List Int)) : Int × Bool × List Int := ((cs.foldl put1 (e, w)).1, true, (cs.foldl put1 (e, w)).2)
def pI (n : Int) : List Int := vint (zig n)
def pB (l : List Int) : List Int := vint (zig (l.length : Int)) ++ l
def pT (s : List UInt8) : List Int := pB (bytesI s)
theorem bytesI_len (s : List UInt8) : (bytesI s).length = s.length := by simp [bytesI]
def MayOp (o : GOp) : Prop := (0 ≤ o.Stamp.Time ∧ o.Stamp.Time ≤ 1099511627776) ∧ (0 ≤ o.Stamp.Site ∧ o.Stamp.Site < 8) ∧ (1 ≤ o.Kind ∧ o.Kind ≤ 3) ∧ (0 ≤ o.Node ∧ o.Node ≤ 1125899906842624) ∧ (0 ≤ o.Parent ∧ o.Parent ≤ 1125899906842624) ∧
  o.Name.length ≤ 255 ∧ o.Key.length ≤ 255 ∧ o.Value.length ≤ 255
instance (o : GOp) : Decidable (MayOp o) := by unfold MayOp; infer_instance
def opC (o : GOp) : List (List Int) := [o.Stamp.Time].map pI ++ [o.Stamp.Site, o.Kind].map pI ++ [o.Node, o.Parent].map pI ++ [o.Name, o.Key, o.Value].map pT
section
variable {N : Nat}
end
def cnt (n : Int) : Prop := 0 ≤ n ∧ n ≤ 1099511627776
instance (n : Int) : Decidable (cnt n) := by unfold cnt; infer_instance
def sit (n : Int) : Prop := 0 ≤ n ∧ n < 8
instance (n : Int) : Decidable (sit n) := by unfold sit; infer_instance
def MayVec (v : Vector Int 8) : Prop := ∀ n ∈ v.toList, cnt n
instance (v : Vector Int 8) : Decidable (MayVec v) := by unfold MayVec; infer_instance
def epOk (e : GEpoch) (j : Nat) : Prop := (0 ≤ vget e.States j default ∧ vget e.States j default ≤ 3) ∧ (-1 ≤ vget e.Sponsor j default ∧ vget e.Sponsor j default < 8)
instance (e : GEpoch) (j : Nat) : Decidable (epOk e j) := by unfold epOk; infer_instance
def MayEp (e : GEpoch) : Prop := cnt e.Number ∧ MayVec e.Seals ∧ ∀ j, j < 8 → epOk e j
def MayPt (p : GPart) : Prop := cnt p.Snap ∧ (1 ≤ p.Many ∧ p.Many ≤ 4096) ∧ (0 ≤ p.Index ∧ p.Index < p.Many) ∧ p.Data.length ≤ 16384
instance (p : GPart) : Decidable (MayPt p) := by unfold MayPt; infer_instance
def MayOps (l : List GOp) : Prop := 1 ≤ l.length ∧ l.length ≤ 4096 ∧ ∀ o ∈ l, MayOp o
instance (l : List GOp) : Decidable (MayOps l) := by unfold MayOps; infer_instance
theorem bif_some {α : Type} (c : Bool) (x y : α) : (bif c then some x else some y) = some (bif c then x else y) := by cases c <;> rfl
theorem and_bif (c x y : Bool) : (c && (bif c then x else y)) = (c && x) := by cases c <;> rfl
def opq (a b : GOp) : Bool := (((a.Stamp.Time == b.Stamp.Time) && (a.Stamp.Site == b.Stamp.Site)) && ((a.Kind == b.Kind) && ((a.Node == b.Node) && ((a.Parent == b.Parent) && ((a.Name == b.Name) && ((a.Key == b.Key) && (a.Value == b.Value)))))))
def opsB (a b : List GOp) : Bool := ((a.length : Int) == (b.length : Int)) && ((a.zip b).all fun p => opq p.1 p.2)
section
variable {N : Nat}
def epq (a b : GEpoch) : Bool := ((a.Number == b.Number) && ((vbeq beq3 a.States b.States) && ((vbeq beq2 a.Seals b.Seals) && (vbeq beq3 a.Sponsor b.Sponsor))))
def byt (l : List Int) : Prop := ∀ x ∈ l, byteR x
def ptq (a b : GPart) : Bool := ((((a.Snap == b.Snap) && (a.Index == b.Index)) && (a.Many == b.Many)) && ((strI a.Data) == (strI b.Data)))
def sameE (a b : GEntry) : Bool :=
  ((((((((((((((a.Kind == b.Kind) && (a.Session == b.Session)) && (a.Request == b.Request)) && opq a.Op b.Op) && (a.Origin == b.Origin)) && (a.Seq == b.Seq)) && opsB a.Ops b.Ops) && epq a.Epoch b.Epoch) && (a.From == b.From)) && (vbeq beq2 a.Vector_ b.Vector_)) && (a.Clock == b.Clock)) && ptq a.Part b.Part) && (a.Site == b.Site)) && (a.Sponsor == b.Sponsor)) && (a.Length == b.Length)
end
theorem bdec {b : Bool} {P : Prop} [inst : Decidable P] (h : b = true ↔ P) : b = decide P := by
  by_cases hp : P
  · rw [decide_eq_true hp]; exact h.2 hp
  · rw [decide_eq_false hp]
    cases b with
    | false => rfl
    | true => exact absurd (h.1 rfl) hp
instance (e : GEpoch) : Decidable (MayEp e) := by unfold MayEp; infer_instance
section
variable {N : Nat}
theorem refMayVec_eq (hN : 20 ≤ N) (v : Vector Int 8) : Fref04_MayVector N v = some (decide (MayVec v)) := by
  unfold Fref04_MayVector Fref04_count
  refine iter_run (fun q : Sref04_MayVectorx2 => 0 ≤ q.i ∧ q.i ≤ 8 ∧ ∀ j, j < q.i.toNat → cnt (vget v j default)) (fun q => (8 - q.i).toNat) ?_ N _ ⟨by simp, by simp, by simp⟩ (by simp; omega)
  rintro ⟨i⟩ nx ⟨g0, g1, hq⟩ ih
  simp only at g0 g1 hq ih ⊢
  by_cases hi : i < 8
  · simp only [decide_eq_true hi, ibB_of g0 hi, cond_true, Option.bind_some]
    have hc : (decide (0 ≤ vget v i.toNat default) && decide (vget v i.toNat default ≤ 1099511627776)) = decide (cnt (vget v i.toNat default)) := bdec (by simp only [Bool.and_eq_true, decide_eq_true_eq]; exact Iff.rfl)
    rw [hc]
    by_cases hv : cnt (vget v i.toNat default)
    · rw [decide_eq_true hv, wrap64 (by omega) (by omega)]
      refine ih ⟨i + 1⟩ ⟨by simp; omega, by simp; omega, fun j hj => ?_⟩ (by simp; omega)
      simp only at hj
      rw [show (i + 1).toNat = i.toNat + 1 by omega] at hj
      rcases Nat.lt_succ_iff_lt_or_eq.1 hj with h | rfl
      · exact hq j h
      · exact hv
    · rw [decide_eq_false hv]
      have : ¬ MayVec v := fun h => hv (h _ (vget_mem v default (by omega)))
      simp [this]
  · have : decide (i < (8 : Int)) = false := by simpa using hi
    simp only [this, cond_false]
    have : MayVec v := fun n hn => by
      obtain ⟨j, hj, rfl⟩ := List.getElem_of_mem hn
      have hj8 : j < 8 := by simpa using hj
      have := hq j (by omega)
      rw [vgetE v default hj8] at this
      simpa using this
    simp [this]
theorem refMayEpoch_eq (hN : 20 ≤ N) (e : GEpoch) : Fref04_MayEpoch N e = some (decide (MayEp e)) := by
  unfold Fref04_MayEpoch
  refine iter_run (fun q : Sref04_MayEpochx2 => 0 ≤ q.i ∧ q.i ≤ 8 ∧ ∀ j, j < q.i.toNat → epOk e j) (fun q => (8 - q.i).toNat) ?_ N _ ⟨by simp, by simp, by simp⟩ (by simp; omega)
  rintro ⟨i⟩ nx ⟨g0, g1, hq⟩ ih
  simp only at g0 g1 hq ih ⊢
  by_cases hi : i < 8
  · simp only [decide_eq_true hi, ibB_of g0 hi, cond_true, Bool.or_true]
    have hc : (((decide (vget e.States i.toNat default < 0) || decide (3 < vget e.States i.toNat default)) || decide (vget e.Sponsor i.toNat default < -1)) || decide (8 ≤ vget e.Sponsor i.toNat default)) = !decide (epOk e i.toNat) := by
      by_cases hv : epOk e i.toNat
      · have hv' := hv
        obtain ⟨⟨h1, h2⟩, h3, h4⟩ := hv'
        rw [decide_eq_true hv, decide_eq_false (by omega), decide_eq_false (by omega), decide_eq_false (by omega), decide_eq_false (by omega)]; rfl
      · rw [decide_eq_false hv]
        unfold epOk at hv
        simp only [Bool.or_eq_true, decide_eq_true_eq, Bool.not_false]
        omega
    rw [hc]
    by_cases hv : epOk e i.toNat
    · rw [decide_eq_true hv, wrap64 (by omega) (by omega)]
      refine ih ⟨i + 1⟩ ⟨by simp; omega, by simp; omega, fun j hj => ?_⟩ (by simp; omega)
      simp only at hj
      rw [show (i + 1).toNat = i.toNat + 1 by omega] at hj
      rcases Nat.lt_succ_iff_lt_or_eq.1 hj with h | rfl
      · exact hq j h
      · exact hv
    · rw [decide_eq_false hv]
      have : ¬ MayEp e := fun h => hv (h.2.2 _ (by omega))
      simp [this]
  · have : decide (i < (8 : Int)) = false := by simpa using hi
    simp only [this, cond_false]
    rw [refMayVec_eq hN]
    unfold Fref04_count
    simp only [Option.bind_some, bif_some, and_bif]
    have hall : ∀ j, j < 8 → epOk e j := fun j hj => hq j (by omega)
    refine congrArg some (bdec ?_)
    unfold MayEp cnt
    simp only [Bool.and_eq_true, decide_eq_true_eq]
    exact ⟨fun h => ⟨h.1, h.2, hall⟩, fun h => ⟨h.1, h.2.1⟩⟩
theorem refMayPart_eq (p : GPart) : Fref04_MayPart N p = some (decide (MayPt p)) := by
  unfold Fref04_MayPart Fref04_count
  rw [Option.bind_some]
  refine congrArg some (bdec ?_)
  unfold MayPt cnt
  simp only [Bool.and_eq_true, decide_eq_true_eq]
  constructor
  · rintro ⟨⟨⟨⟨⟨h1, h2⟩, h3⟩, h4⟩, h5⟩, h6⟩; exact ⟨h1, ⟨h2, h3⟩, ⟨h4, h5⟩, by omega⟩
  · rintro ⟨h1, ⟨h2, h3⟩, ⟨h4, h5⟩, h6⟩; exact ⟨⟨⟨⟨⟨h1, h2⟩, h3⟩, h4⟩, h5⟩, by omega⟩
end
section
variable {N : Nat}
end
section
variable {N : Nat}
end
def opsC (l : List GOp) : List (List Int) := [(l.length : Int)].map pI ++ (l.map opC).flatten
section
variable {N : Nat} {e0 : Int} {w : List Int}
end
theorem pI_byt {n : Int} (h : R64 n) : byt (pI n) := by
  intro x hx
  exact vint_byte 9 (zig n) (Nat.lt_trans (zig_lt h) (by decide)) x hx
def CB (cs : List (List Int)) : Prop := ∀ c ∈ cs, byt c
theorem CB.append {a b : List (List Int)} (ha : CB a) (hb : CB b) : CB (a ++ b) := fun c hc => (List.mem_append.1 hc).elim (ha c) (hb c)
theorem CB.flat {cs : List (List Int)} (h : CB cs) : byt cs.flatten := fun x hx => by
  obtain ⟨c, hc, hx⟩ := List.mem_flatten.1 hx
  exact h c hc x hx
theorem CB.nil : CB [] := fun c hc => by cases hc
theorem CB.ints {l : List Int} (h : ∀ n ∈ l, R64 n) : CB (l.map pI) := fun c hc => by
  obtain ⟨n, hn, rfl⟩ := List.mem_map.1 hc
  exact pI_byt (h n hn)
theorem CB.int1 {a : Int} (ha : R64 a) : CB ([a].map pI) := CB.ints (by intro n hn; simp at hn; subst hn; exact ha)
theorem CB.int2 {a b : Int} (ha : R64 a) (hb : R64 b) : CB ([a, b].map pI) := CB.ints (by intro n hn; simp at hn; rcases hn with rfl | rfl <;> assumption)
theorem byt_pB {l : List Int} (hl : l.length ≤ 1048576) (h : byt l) : byt (pB l) := fun x hx => by
  unfold pB at hx
  rcases List.mem_append.1 hx with hx | hx
  · exact pI_byt (n := (l.length : Int)) ⟨by omega, by omega⟩ x hx
  · exact h x hx
theorem byt_bytesI (s : List UInt8) : byt (bytesI s) := fun x hx => by
  unfold bytesI at hx
  obtain ⟨b, _, rfl⟩ := List.mem_map.1 hx
  have := b.toNat_lt
  exact ⟨by omega, by omega⟩
theorem CB.texts {l : List (List UInt8)} (h : ∀ s ∈ l, s.length ≤ 1048576) : CB (l.map pT) := fun c hc => by
  obtain ⟨s, hs, rfl⟩ := List.mem_map.1 hc
  exact byt_pB (by rw [bytesI_len]; exact h s hs) (byt_bytesI s)
theorem CB.op {o : GOp} (h : MayOp o) : CB (opC o) := by
  obtain ⟨h1, h2, h3, h4, h5, h6, h7, h8⟩ := h
  exact (((CB.int1 ⟨by omega, by omega⟩).append (CB.int2 ⟨by omega, by omega⟩ ⟨by omega, by omega⟩)).append (CB.int2 ⟨by omega, by omega⟩ ⟨by omega, by omega⟩)).append (CB.texts (by intro s hs; simp at hs; rcases hs with rfl | rfl | rfl <;> omega))
theorem CB.ops {l : List GOp} (h : MayOps l) : CB (opsC l) :=
  (CB.int1 ⟨by omega, by have := h.2.1; omega⟩).append fun c hc => by
    obtain ⟨cs, hcs, hc⟩ := List.mem_flatten.1 hc
    obtain ⟨o, ho, rfl⟩ := List.mem_map.1 hcs
    exact CB.op (h.2.2 o ho) c hc
section
variable {N : Nat}
end
def MayAd (a : GAddr) : Prop := (0 ≤ a.Group ∧ a.Group < 9) ∧ (0 ≤ a.Replica ∧ a.Replica < 5)
instance (a : GAddr) : Decidable (MayAd a) := by unfold MayAd; infer_instance
def MayBa (b : GBallot) : Prop := cnt b.Round ∧ (0 ≤ b.Replica ∧ b.Replica < 5)
instance (b : GBallot) : Decidable (MayBa b) := by unfold MayBa; infer_instance
section
variable {N : Nat}
end
def slq (a b : GSlotted) : Bool := ((a.Slot == b.Slot) && ((a.Ballot.Round == b.Ballot.Round) && (a.Ballot.Replica == b.Ballot.Replica))) && sameE a.Entry b.Entry
def slqs (a b : List GSlotted) : Bool := ((a.length : Int) == (b.length : Int)) && ((a.zip b).all fun p => slq p.1 p.2)
section
variable {N : Nat}
def roomS (N : Nat) (l : List GSlotted) : Prop := l.length + 20 ≤ N ∧ l.length ≤ 9223372036854775807 ∧ ∀ x ∈ l, x.Entry.Ops.length + 20 ≤ N ∧ x.Entry.Ops.length ≤ 9223372036854775807 ∧ byt x.Entry.Part.Data
end
def adq (a b : GAddr) : Bool := (a.Group == b.Group) && (a.Replica == b.Replica)
def baq (a b : GBallot) : Bool := (a.Round == b.Round) && (a.Replica == b.Replica)
def sameM (a b : GMsg) : Bool :=
  (((((((((((((a.Kind == b.Kind) && adq a.From b.From) && adq a.To b.To) && baq a.Ballot b.Ballot) && (a.Slot == b.Slot)) && slqs a.List_ b.List_) && sameE a.Entry b.Entry) && (a.Number == b.Number)) && (vbeq beq2 a.Vector_ b.Vector_)) && (a.Clock == b.Clock)) && (a.Origin == b.Origin)) && opsB a.Ops b.Ops) && epq a.Epoch b.Epoch) && ptq a.Part b.Part
def bytM (m : GMsg) : Prop := (∀ x ∈ m.List_, byt x.Entry.Part.Data) ∧ byt m.Entry.Part.Data ∧ byt m.Part.Data
def roomM (N : Nat) (m : GMsg) : Prop := roomS N m.List_ ∧ (m.Entry.Ops.length + 20 ≤ N ∧ m.Entry.Ops.length ≤ 9223372036854775807 ∧ byt m.Entry.Part.Data) ∧ (m.Ops.length + 20 ≤ N ∧ m.Ops.length ≤ 9223372036854775807) ∧ byt m.Part.Data
theorem roomM.byt {N : Nat} {m : GMsg} (h : roomM N m) : bytM m := ⟨fun x hx => (h.1.2.2 x hx).2.2, h.2.1.2.2, h.2.2.2⟩
section
variable {N : Nat}
end
section
variable {N : Nat}
end
section
variable {N : Nat}
end
def kindM (m : GMsg) : Prop := 1 ≤ m.Kind ∧ m.Kind ≤ 15
instance (m : GMsg) : Decidable (kindM m) := by unfold kindM; infer_instance
section
variable {N : Nat}
end
section
variable {N : Nat}
theorem cloneOps_eq {l : List GOp} (h : l.length ≤ 1048576) : Fslices_Clone_Op N l = some l := by
  unfold Fslices_Clone_Op Fslices_Clone_Op_367
  rw [lenB_of (by omega)]; rfl
theorem cloneSl_eq {l : List GSlotted} (h : l.length ≤ 1048576) : Fslices_Clone_Slotted_560 N l = some (l.length, l) := by
  unfold Fslices_Clone_Slotted_560 Fslices_Clone_Slotted_439
  rw [lenB_of (by omega)]; rfl
theorem cloneEntry_eq {e : GEntry} (h : e.Ops.length ≤ 1048576) (hb : e.Part.Data.length ≤ 1048576) : Frecord_CloneEntry N e = some e := by
  unfold Frecord_CloneEntry
  rw [cloneOps_eq h, Option.bind_some, F43_eq (by omega), Option.bind_some]
theorem set_getD {α : Type} (d : α) : ∀ (l : List α) (i : Nat), i < l.length → l.set i (l.getD i d) = l
  | [], i, h => by simp at h
  | x :: l, 0, h => by simp
  | x :: l, i + 1, h => by
    simp only [List.set_cons_succ, List.getD_cons_succ, set_getD d l i (by simpa using h)]
def smallM (m : GMsg) : Prop := (m.List_.length ≤ 1048576 ∧ ∀ x ∈ m.List_, x.Entry.Ops.length ≤ 1048576 ∧ x.Entry.Part.Data.length ≤ 1048576) ∧ (m.Entry.Ops.length ≤ 1048576 ∧ m.Entry.Part.Data.length ≤ 1048576) ∧ m.Ops.length ≤ 1048576 ∧ m.Part.Data.length ≤ 1048576
theorem cloneMsg_eq {m : GMsg} (hN : m.List_.length + 20 ≤ N) (h : smallM m) : Frecord_CloneMsgz N m = some m := by
  obtain ⟨⟨h1, h2⟩, h3, h4, h5⟩ := h
  have key : Frecord_CloneMsg N m = some (m.Kind, m.From, m.To, m.Ballot, m.Slot, m.List_.length, m.Entry, m.Number, m.Vector_, m.Clock, m.Origin, m.Ops, m.Epoch, m.Part, m.List_) := by
    unfold Frecord_CloneMsg
    rw [cloneSl_eq h1, Option.bind_some]
    refine iter_run (fun q : Srecord_CloneMsgx3 => 0 ≤ q.t11 ∧ q.t11 ≤ (m.List_.length : Int) ∧ q.g2 = m.List_) (fun q => ((m.List_.length : Int) - q.t11).toNat) ?_ N _ ⟨by simp, by simp, rfl⟩ (by simp; omega)
    rintro ⟨i, g⟩ nx ⟨g0, g1, hg⟩ ih
    simp only at g0 g1 hg ih ⊢
    subst hg
    by_cases hi : i < m.List_.length
    · have hin : i.toNat < m.List_.length := by omega
      have hmem : m.List_.getD i.toNat default ∈ m.List_ := by
        simp only [List.getD, List.getElem?_eq_getElem hin, Option.getD_some]; exact List.getElem_mem hin
      simp only [decide_eq_true hi, ibB_of g0 hi, cond_true, decide_eq_true hin]
      have hc := cloneEntry_eq (N := N) (h2 _ hmem).1 (h2 _ hmem).2
      change (Frecord_CloneEntry N (m.List_.getD i.toNat default).Entry).bind _ = _
      rw [hc, Option.bind_some]
      have hset : m.List_.set i.toNat (⟨(m.List_.getD i.toNat default).Slot, (m.List_.getD i.toNat default).Ballot, (m.List_.getD i.toNat default).Entry⟩ : GSlotted) = m.List_ := set_getD default _ _ hin
      rw [hset, wrap64 (by omega) (by omega)]
      exact ih ⟨i + 1, m.List_⟩ ⟨by simp; omega, by simp; omega, rfl⟩ (by simp; omega)
    · have : decide (i < ((m.List_.length : Nat) : Int)) = false := by simpa using hi
      simp only [this, cond_false]
      rw [cloneEntry_eq h3.1 h3.2, Option.bind_some, cloneOps_eq h4, Option.bind_some, F43_eq (by omega), Option.bind_some]
  unfold Frecord_CloneMsgz
  rw [key, Option.bind_some]
  simp only [List.take_length]
  rw [show Nat.ble m.List_.length m.List_.length = true from by simp]
  rfl
end
end Go.Proofs.Ytekpjhhbmjcbmaa
