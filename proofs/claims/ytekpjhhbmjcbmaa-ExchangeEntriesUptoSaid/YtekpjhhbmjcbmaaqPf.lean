/-
What a message becomes, and what an entry brings.
-/
import Derived.Test.YtekpjhhbmjcbmaaqWr
set_option linter.unusedVariables false
set_option linter.unusedSimpArgs false
namespace Go.Proofs.Ytekpjhhbmjcbmaa
open Go Go.Ev
section
variable {N : Nat}
theorem refCloneEntry_eq {e : GEntry} (h : e.Ops.length ≤ 1048576) (hb : e.Part.Data.length ≤ 1048576) : Fref04_CloneEntry N e = some e := by
  unfold Fref04_CloneEntry
  rw [lenB_of (by omega), lenB_of (by omega)]; rfl
theorem eta_slot (x : GSlotted) : (⟨x.Slot, x.Ballot, x.Entry⟩ : GSlotted) = x := rfl
theorem eta_entry (x : GEntry) : (⟨x.Kind, x.Session, x.Request, (⟨x.Op.Stamp, x.Op.Kind, x.Op.Node, x.Op.Parent, x.Op.Name, x.Op.Key, x.Op.Value⟩ : GOp), x.Origin, x.Seq, x.Ops, x.Epoch, x.From, x.Vector_, x.Clock, x.Part, x.Site, x.Sponsor, x.Length⟩ : GEntry) = x := rfl
theorem refCloneMsg_eq {m : GMsg} (hN : m.List_.length + 20 ≤ N) (h : smallM m) : Fref04_CloneMsg N m = some m := by
  obtain ⟨⟨h1, h2⟩, h3, h4, h5⟩ := h
  unfold Fref04_CloneMsg
  rw [refCloneEntry_eq h3.1 h3.2, Option.bind_some, lenB_of (by omega), lenB_of (by omega), cond_true, cond_true]
  refine iter_run (fun q : Sref04_CloneMsgx6 => ∃ k : Nat, q.i = k ∧ k ≤ m.List_.length ∧ q.l = m.List_.take k) (fun q => ((m.List_.length : Int) - q.i).toNat) ?_ N _ ⟨0, rfl, by omega, by simp⟩ (by simp; omega)
  rintro ⟨l, i⟩ nx ⟨k, hi, hk, hl⟩ ih
  simp only at hi hl ih ⊢
  subst hi hl
  by_cases hlt : k < m.List_.length
  · rw [decide_eq_true (show (k : Int) < (m.List_.length : Int) by omega), ibB_of (Int.natCast_nonneg k) (by omega)]
    have hm : lget m.List_ (k : Int) default ∈ m.List_ := lget_mem default (by omega) (by omega)
    have ⟨b1, b2⟩ := h2 _ hm
    simp only [cond_true, eta_entry]
    rw [refCloneEntry_eq b1 b2, Option.bind_some, eta_slot]
    rw [lenB_of (by simp only [List.length_cons, List.length_nil, List.length_take]; omega), cond_true, wrapS (by omega) (by omega)]
    refine ih _ ⟨k + 1, rfl, by omega, ?_⟩ (by simp; omega)
    rw [List.take_add_one, lget_nat]; simp [List.getD, hlt]
  · rw [decide_eq_false (show ¬ (k : Int) < (m.List_.length : Int) by omega), cond_false, List.take_of_length_le (by omega)]
theorem entry_same {m : GMsg} (hN : 60 ≤ N) (hr : roomM N m) (hs : smallM m) : ∃ e b, Fexchange_Entry N m = some (e, b) ∧ Fref16_Entry N m = some (e, b) ∧ e.Ops.length ≤ m.Ops.length ∧ byt e.Part.Data := by
  unfold Fexchange_Entry Fref16_Entry
  have hl := hr.1.1
  rw [checkMsg_eq (by omega) hr, refMayMsg_eq (by omega) hr]
  simp only [Option.bind_some]
  have hd : byt m.Part.Data := hr.2.2.2
  have hnil : byt ([] : List Int) := fun x hx => by cases hx
  cases mayM m with
  | false => exact ⟨_, _, rfl, rfl, by simp, hnil⟩
  | true =>
    simp only [cond_true, beq_self_eq_true, Bool.not_true, cond_false]
    rw [cloneMsg_eq (by omega) hs, refCloneMsg_eq (by omega) hs]
    simp only [Option.bind_some]
    unfold Fexchange_site Fref16_site
    by_cases h10 : m.Kind = 10
    · rw [h10]
      simp only [show ((10 : Int) == 10) = true from rfl, show ((10 : Int) == 11) = false from rfl, show ((10 : Int) == 12) = false from rfl, show ((10 : Int) == 13) = false from rfl, cond_true, cond_false, Option.bind_some, Bool.true_and, Bool.false_and]
      cases (decide (0 ≤ m.From.Group) && decide (m.From.Group < 8)) <;> exact ⟨_, _, rfl, rfl, by simp, hnil⟩
    rw [show (m.Kind == 10) = false by simpa using h10]
    by_cases h11 : m.Kind = 11
    · rw [h11]
      simp only [show ((11 : Int) == 11) = true from rfl, show ((11 : Int) == 12) = false from rfl, show ((11 : Int) == 13) = false from rfl, cond_true, cond_false, Option.bind_some, Bool.true_and, Bool.false_and]
      cases (decide (0 ≤ m.From.Group) && decide (m.From.Group < 8))
      · exact ⟨_, _, rfl, rfl, by simp, hnil⟩
      · exact ⟨_, _, rfl, rfl, Nat.le_refl _, hnil⟩
    rw [show (m.Kind == 11) = false by simpa using h11]
    by_cases h12 : m.Kind = 12
    · rw [h12]; exact ⟨_, _, rfl, rfl, by simp, hnil⟩
    rw [show (m.Kind == 12) = false by simpa using h12]
    by_cases h13 : m.Kind = 13
    · rw [h13]; exact ⟨_, _, rfl, rfl, by simp, hd⟩
    rw [show (m.Kind == 13) = false by simpa using h13]
    exact ⟨_, _, rfl, rfl, by simp, hnil⟩
theorem member_all (N : Nat) (s : GSnap) (i : Int) : ∃ r, Fexchange_member N s i = some r ∧ Fref16_Member N s.Epoch i = some r ∧ (r = true → ibB i 8 = true) := by
  unfold Fexchange_member Fref16_Member Fexchange_site Fref16_site
  simp only [Option.bind_some]
  by_cases h : 0 ≤ i ∧ i < 8
  · rw [site_t h, ibB_of h.1 h.2]
    simp only [Bool.or_true, cond_true]
    exact ⟨_, rfl, rfl, fun _ => by first | rfl | trivial⟩
  · rw [site_f h]; exact ⟨_, rfl, rfl, fun h => by simp at h⟩
theorem useful_same {x : GEntry} (s : GSnap) (hN : x.Ops.length + 400 ≤ N) (hl : x.Ops.length ≤ 1048576) : ∃ r, Fexchange_Useful N s x = some r ∧ Fref16_Useful N s x = some r := by
  unfold Fexchange_Useful Fref16_Useful
  rw [take_eq (by omega) hl, reftake_eq (by omega) hl]
  simp only [Option.bind_some]
  by_cases h1 : x.Kind = 1
  · rw [h1]; exact ⟨_, rfl, rfl⟩
  rw [show (x.Kind == 1) = false by simpa using h1]
  by_cases h2 : x.Kind = 2
  · rw [h2]; exact ⟨_, rfl, rfl⟩
  rw [show (x.Kind == 2) = false by simpa using h2]
  by_cases h4 : x.Kind = 4
  · rw [h4]
    obtain ⟨r, e1, e2, e3⟩ := member_all N s x.From
    rw [e1, e2, above_eq (by omega), refabove_eq (by omega)]
    simp only [show ((4 : Int) == 4) = true from rfl, show ((4 : Int) == 5) = false from rfl, cond_true, cond_false]
    cases (x.Seq == s.Epoch.Number && !x.From == s.Site) with
    | false => exact ⟨_, rfl, rfl⟩
    | true =>
      simp only [cond_true, Option.bind_some, Bool.true_and]
      cases r with
      | false => exact ⟨_, rfl, rfl⟩
      | true =>
        rw [e3 rfl]
        simp only [Bool.or_true, cond_true, Option.bind_some, above_not]
        exact ⟨_, rfl, rfl⟩
  rw [show (x.Kind == 4) = false by simpa using h4]
  by_cases h3 : x.Kind = 3
  · rw [h3]; exact ⟨_, rfl, rfl⟩
  rw [show (x.Kind == 3) = false by simpa using h3]
  cases (x.Kind == 5) <;> exact ⟨_, rfl, rfl⟩
theorem entries_law {s : GSnap} {m : GMsg} {x : GEntry} (hN : 400 ≤ N) (hr : roomM N m) (hs : smallM m) (hx : x.Ops.length + 400 ≤ N) (hl : x.Ops.length ≤ 1048576) : Flaw16_ExchangeEntries N s m x = some true := by
  unfold Flaw16_ExchangeEntries
  obtain ⟨e, b, h1, h2, h3, h4⟩ := entry_same (N := N) (by omega) hr hs
  obtain ⟨r, h5, h6⟩ := useful_same (N := N) s hx hl
  have ho := hr.2.2.1
  rw [h1, h2, begun_eq hN, h5, h6]
  simp only [Option.bind_some, beq_self_eq_true, Bool.and_self, cond_true]
  rw [refSameEntry_eq (by omega) (by omega), sameE_self h4]
  simp
end
end Go.Proofs.Ytekpjhhbmjcbmaa
