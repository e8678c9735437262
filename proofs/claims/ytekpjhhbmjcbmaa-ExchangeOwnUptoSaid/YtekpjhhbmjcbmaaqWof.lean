/-
Plain laws of another seat, turned to this one by wip/tools/ren2.py.
-/
import Derived.Test.YtekpjhhbmjcbmaaqFo
import Derived.Test.YtekpjhhbmjcbmaaqWor
set_option linter.unusedVariables false
set_option linter.unusedSimpArgs false
namespace Go.Proofs.Ytekpjhhbmjcbmaa
open Go Go.Ev
section
variable {N : Nat}
theorem refCloneEntry_eq {e : GEntry} (h : e.Ops.length ≤ 1048576) (hb : e.Part.Data.length ≤ 1048576) : Fref04_CloneEntry N e = some e := by
  unfold Fref04_CloneEntry
  rw [lenB_of (by omega), lenB_of (by omega)]; rfl
theorem eta_slot (x : GSlotted) : (⟨x.Slot, x.Ballot, x.Entry⟩ : GSlotted) = x := rfl
theorem eta_entry (x : GEntry) : (⟨x.Kind, x.Session, x.Request, (⟨x.Op.Stamp, x.Op.Kind, x.Op.Node, x.Op.Parent, x.Op.Name, x.Op.Key, x.Op.Value⟩ : GOp), x.Origin, x.Seq, x.Ops, x.Epoch, x.From, x.Vector_, x.Clock, x.Part, x.Site, x.Sponsor, x.Length⟩ : GEntry) = x := rfl
theorem refCloneMsg_eq {m : GMsg} (hN : m.List_.length + 20 ≤ N) (h : smallM m) : Fref04_CloneMsg N m = some m := by
  obtain ⟨⟨h1, h2⟩, h3, h4, h5⟩ := h
  unfold Fref04_CloneMsg
  rw [refCloneEntry_eq h3.1 h3.2, Option.bind_some, lenB_of (by omega), lenB_of (by omega), cond_true, cond_true]
  refine iter_run (fun q : Sref04_CloneMsgx6 => ∃ k : Nat, q.i = k ∧ k ≤ m.List_.length ∧ q.l = m.List_.take k) (fun q => ((m.List_.length : Int) - q.i).toNat) ?_ N _ ⟨0, rfl, by omega, by simp⟩ (by simp; omega)
  rintro ⟨l, i⟩ nx ⟨k, hi, hk, hl⟩ ih
  simp only at hi hl ih ⊢
  subst hi hl
  by_cases hlt : k < m.List_.length
  · rw [decide_eq_true (show (k : Int) < (m.List_.length : Int) by omega), ibB_of (Int.natCast_nonneg k) (by omega)]
    have hm : lget m.List_ (k : Int) default ∈ m.List_ := lget_mem default (by omega) (by omega)
    have ⟨b1, b2⟩ := h2 _ hm
    simp only [cond_true, eta_entry]
    rw [refCloneEntry_eq b1 b2, Option.bind_some, eta_slot]
    rw [lenB_of (by simp only [List.length_cons, List.length_nil, List.length_take]; omega), cond_true, wrapS (by omega) (by omega)]
    refine ih _ ⟨k + 1, rfl, by omega, ?_⟩ (by simp; omega)
    rw [List.take_add_one, lget_nat]; simp [List.getD, hlt]
  · rw [decide_eq_false (show ¬ (k : Int) < (m.List_.length : Int) by omega), cond_false, List.take_of_length_le (by omega)]
end
end Go.Proofs.Ytekpjhhbmjcbmaa
