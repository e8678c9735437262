/-
Copies are the same: the plain law of RecordSames.
-/
import Derived.Test.YteinehkdjkobnaaqRq
set_option linter.unusedVariables false
set_option linter.unusedSimpArgs false
namespace Go.Proofs.Yteinehkdjkobnaa
open Go Go.Ev
section
variable {N : Nat}
theorem cloneOps_eq {l : List GOp} (h : l.length ≤ 1048576) : Fslices_Clone_Op N l = some l := by
  unfold Fslices_Clone_Op Fslices_Clone_Op_367
  rw [lenB_of (by omega)]; rfl
theorem cloneSl_eq {l : List GSlotted} (h : l.length ≤ 1048576) : Fslices_Clone_Slotted_560 N l = some (l.length, l) := by
  unfold Fslices_Clone_Slotted_560 Fslices_Clone_Slotted_439
  rw [lenB_of (by omega)]; rfl
theorem cloneEntry_eq {e : GEntry} (h : e.Ops.length ≤ 1048576) (hb : e.Part.Data.length ≤ 1048576) : Frecord_CloneEntry N e = some e := by
  unfold Frecord_CloneEntry
  rw [cloneOps_eq h, Option.bind_some, F43_eq (by omega), Option.bind_some]
theorem set_getD {α : Type} (d : α) : ∀ (l : List α) (i : Nat), i < l.length → l.set i (l.getD i d) = l
  | [], i, h => by simp at h
  | x :: l, 0, h => by simp
  | x :: l, i + 1, h => by
    simp only [List.set_cons_succ, List.getD_cons_succ, set_getD d l i (by simpa using h)]
def smallM (m : GMsg) : Prop := (m.List_.length ≤ 1048576 ∧ ∀ x ∈ m.List_, x.Entry.Ops.length ≤ 1048576 ∧ x.Entry.Part.Data.length ≤ 1048576) ∧ (m.Entry.Ops.length ≤ 1048576 ∧ m.Entry.Part.Data.length ≤ 1048576) ∧ m.Ops.length ≤ 1048576 ∧ m.Part.Data.length ≤ 1048576
theorem cloneMsg_eq {m : GMsg} (hN : m.List_.length + 20 ≤ N) (h : smallM m) : Frecord_CloneMsgz N m = some m := by
  obtain ⟨⟨h1, h2⟩, h3, h4, h5⟩ := h
  have key : Frecord_CloneMsg N m = some (m.Kind, m.From, m.To, m.Ballot, m.Slot, m.List_.length, m.Entry, m.Number, m.Vector_, m.Clock, m.Origin, m.Ops, m.Epoch, m.Part, m.List_) := by
    unfold Frecord_CloneMsg
    rw [cloneSl_eq h1, Option.bind_some]
    refine iter_run (fun q : Srecord_CloneMsgx3 => 0 ≤ q.t11 ∧ q.t11 ≤ (m.List_.length : Int) ∧ q.g2 = m.List_) (fun q => ((m.List_.length : Int) - q.t11).toNat) ?_ N _ ⟨by simp, by simp, rfl⟩ (by simp; omega)
    rintro ⟨i, g⟩ nx ⟨g0, g1, hg⟩ ih
    simp only at g0 g1 hg ih ⊢
    subst hg
    by_cases hi : i < m.List_.length
    · have hin : i.toNat < m.List_.length := by omega
      have hmem : m.List_.getD i.toNat default ∈ m.List_ := by
        simp only [List.getD, List.getElem?_eq_getElem hin, Option.getD_some]; exact List.getElem_mem hin
      simp only [decide_eq_true hi, ibB_of g0 hi, cond_true, decide_eq_true hin]
      have hc := cloneEntry_eq (N := N) (h2 _ hmem).1 (h2 _ hmem).2
      change (Frecord_CloneEntry N (m.List_.getD i.toNat default).Entry).bind _ = _
      rw [hc, Option.bind_some]
      have hset : m.List_.set i.toNat (⟨(m.List_.getD i.toNat default).Slot, (m.List_.getD i.toNat default).Ballot, (m.List_.getD i.toNat default).Entry⟩ : GSlotted) = m.List_ := set_getD default _ _ hin
      rw [hset, wrap64 (by omega) (by omega)]
      exact ih ⟨i + 1, m.List_⟩ ⟨by simp; omega, by simp; omega, rfl⟩ (by simp; omega)
    · have : decide (i < ((m.List_.length : Nat) : Int)) = false := by simpa using hi
      simp only [this, cond_false]
      rw [cloneEntry_eq h3.1 h3.2, Option.bind_some, cloneOps_eq h4, Option.bind_some, F43_eq (by omega), Option.bind_some]
  unfold Frecord_CloneMsgz
  rw [key, Option.bind_some]
  simp only [List.take_length]
  rw [show Nat.ble m.List_.length m.List_.length = true from by simp]
  rfl
theorem sameE_self {e : GEntry} (h : byt e.Part.Data) : sameE e e = true := (sameE_iff h h).2 rfl
theorem sameM_self {m : GMsg} (h : bytM m) : sameM m m = true := (sameM_iff h h).2 rfl
theorem recordSames_F (hN : 60 ≤ N) {a b : GEntry} {m n : GMsg} (ha : a.Ops.length + 20 ≤ N ∧ a.Ops.length ≤ 9223372036854775807 ∧ byt a.Part.Data) (hm : roomM N m) (hs : smallM m) (hs2 : a.Ops.length ≤ 1048576 ∧ a.Part.Data.length ≤ 1048576) : Flaw04_RecordSames N a b m n = some true := by
  unfold Flaw04_RecordSames
  rw [begun_eq hN]
  have e1 := fun x => sameEntry_eq (N := N) (a := a) (b := x) (by omega) ha.2.1
  have e2 := fun x => refSameEntry_eq (N := N) (a := a) (b := x) (by omega) ha.2.1
  have e3 := fun x => sameMsg_eq (N := N) (b := x) hm
  have e4 := fun x => refSameMsg_eq (N := N) (b := x) hm
  simp only [e1, e2, e3, e4, Option.bind_some, cond_true, beq_self_eq_true, Bool.and_self, Bool.true_and, bif_some, sameE_self ha.2.2, sameM_self hm.byt, cloneEntry_eq hs2.1 hs2.2, cloneMsg_eq (N := N) (by have := hm.1.1; omega) hs]
end
theorem bulk26_len (l : List GOp) : l.length + 1 ≤ bulk26 l := by
  unfold bulk26
  have := len_le_sum' (f := bulk25) (fun x => by unfold bulk25; omega) l
  omega
theorem bulk32_len (l : List Int) : l.length + 1 ≤ bulk32 l := by
  unfold bulk32
  have := len_le_sum' (f := bulk5) (fun x => by unfold bulk5; omega) l
  omega
theorem bulk36_small (e : GEntry) : e.Ops.length + e.Part.Data.length + 1 ≤ bulk36 e := by
  have h1 := bulk26_len e.Ops
  have h2 := bulk32_len e.Part.Data
  unfold bulk36 bulk34
  omega
theorem bulk48_mem {l : List GSlotted} {x : GSlotted} (h : x ∈ l) : l.length + 1 ≤ bulk48 l ∧ bulk36 x.Entry ≤ bulk48 l := by
  unfold bulk48
  have h1 := len_le_sum' (f := bulk80) (fun x => by unfold bulk80; omega) l
  have h2 := mem_sum bulk80 h
  have h3 : bulk36 x.Entry ≤ bulk80 x := by unfold bulk80; omega
  omega
theorem bulk48_len (l : List GSlotted) : l.length + 1 ≤ bulk48 l := by
  unfold bulk48
  have h1 := len_le_sum' (f := bulk80) (fun x => by unfold bulk80; omega) l
  omega
theorem smallM_of {m : GMsg} (h : bulk50 m ≤ 1048576) : smallM m := by
  have h1 : bulk48 m.List_ ≤ bulk50 m ∧ bulk36 m.Entry ≤ bulk50 m ∧ bulk26 m.Ops ≤ bulk50 m ∧ bulk34 m.Part ≤ bulk50 m := by
    unfold bulk50; omega
  have h2 : bulk32 m.Part.Data ≤ bulk34 m.Part := by unfold bulk34; omega
  have h3 := bulk48_len m.List_
  have h4 := bulk36_small m.Entry
  have h5 := bulk26_len m.Ops
  have h6 := bulk32_len m.Part.Data
  refine ⟨⟨by omega, fun x hx => ?_⟩, ⟨by omega, by omega⟩, by omega, by omega⟩
  have h7 := bulk48_mem hx
  have h8 := bulk36_small x.Entry
  constructor <;> omega
end Go.Proofs.Yteinehkdjkobnaa
