/-
The plain law of ExchangeOwn.
-/
import Derived.Test.YtekpjhhbmjcbmaaqWof
set_option linter.unusedVariables false
set_option linter.unusedSimpArgs false
set_option maxRecDepth 100000
namespace Go.Proofs.Ytekpjhhbmjcbmaa
open Go Go.Ev
section
variable {N : Nat}
theorem tot_cond {α : Type} {c : Bool} {a b : Option α} (h : ∃ r, a = some r) (h' : ∃ r, b = some r) : ∃ r, (bif c then a else b) = some r := by cases c; exact h'; exact h
theorem tot_bind {α β : Type} {o : Option α} {f : α → Option β} (h : ∃ r, o = some r) (h' : ∀ x, ∃ r, f x = some r) : ∃ r, o.bind f = some r := by
  obtain ⟨r, rfl⟩ := h
  exact h' r
theorem tot_bindQ {α β : Type} {Q : β → Prop} {o : Option α} {f : α → Option β} (h : ∃ r, o = some r) (h' : ∀ x, ∃ r, f x = some r ∧ Q r) : ∃ r, o.bind f = some r ∧ Q r := by
  obtain ⟨r, rfl⟩ := h
  exact h' r
theorem tot_condQ {α : Type} {Q : α → Prop} {c : Bool} {a b : Option α} (h : ∃ r, a = some r ∧ Q r) (h' : ∃ r, b = some r ∧ Q r) : ∃ r, (bif c then a else b) = some r ∧ Q r := by cases c; exact h'; exact h
theorem place_some (op : GOp) : ∃ r, Fstamp_place N op = some r := by
  unfold Fstamp_place
  refine tot_bind (top_some _ _) fun _ => tot_bind (tot_cond (made_some _ _) ⟨_, rfl⟩) fun _ => tot_cond ⟨_, rfl⟩ (tot_cond ⟨_, rfl⟩ (tot_bind (tot_cond ⟨_, contains_eq _ _⟩ ⟨_, rfl⟩) fun _ => tot_cond ⟨_, rfl⟩ ⟨_, rfl⟩))
theorem checkOp_some (op : GOp) : ∃ r, Fstamp_CheckOp N op = some r := by
  unfold Fstamp_CheckOp
  refine tot_bind (check_some _ _) fun _ => tot_bind (tot_cond (node_some _ _) ⟨_, rfl⟩) fun _ => ?_
  repeat' first
    | exact ⟨_, rfl⟩
    | exact place_some _
    | exact made_some _ _
    | exact top_some _ _
    | refine tot_cond ?_ ?_
    | refine tot_bind ?_ fun _ => ?_
theorem cloneOpsM {l : List GOp} (h : l.length ≤ 1048576) : Fslices_Clone_Op_d99 N l = some (l.length, l) := by
  unfold Fslices_Clone_Op_d99 Fslices_Clone_Op_856
  rw [lenB_of (by omega)]; rfl
theorem cloneBytesM {l : List Int} (h : l.length ≤ 1048576) : Fslices_Clone_byte_be0 N l = some (l.length, l) := by
  unfold Fslices_Clone_byte_be0 Fslices_Clone_byte_e12
  rw [lenB_of (by omega)]; rfl
theorem cloneMsgM_eq {m : GMsg} (hN : m.List_.length + 20 ≤ N) (h : smallM m) :
    Frecord_CloneMsg N m = some (m.Kind, m.From, m.To, m.Ballot, m.Slot, m.List_.length, m.Entry, m.Number, m.Vector_, m.Clock, m.Origin, m.Ops.length, m.Epoch, m.Part.Snap, m.Part.Index, m.Part.Many, m.Part.Data.length, m.List_, m.Ops, m.Part.Data) := by
  obtain ⟨⟨h1, h2⟩, h3, h4, h5⟩ := h
  unfold Frecord_CloneMsg
  rw [cloneSl_eq h1, Option.bind_some]
  refine iter_run (fun q : Srecord_CloneMsgx3 => 0 ≤ q.t11 ∧ q.t11 ≤ (m.List_.length : Int) ∧ q.g2 = m.List_) (fun q => ((m.List_.length : Int) - q.t11).toNat) ?_ N _ ⟨by simp, by simp, rfl⟩ (by simp; omega)
  rintro ⟨i, g⟩ nx ⟨g0, g1, hg⟩ ih
  simp only at g0 g1 hg ih ⊢
  subst hg
  by_cases hi : i < m.List_.length
  · have hin : i.toNat < m.List_.length := by omega
    have hmem : m.List_.getD i.toNat default ∈ m.List_ := by
      simp only [List.getD, List.getElem?_eq_getElem hin, Option.getD_some]; exact List.getElem_mem hin
    simp only [decide_eq_true hi, ibB_of g0 hi, cond_true, decide_eq_true hin]
    have hc := cloneEntry_eq (N := N) (h2 _ hmem).1 (h2 _ hmem).2
    change (Frecord_CloneEntry N (m.List_.getD i.toNat default).Entry).bind _ = _
    rw [hc, Option.bind_some]
    have hset : m.List_.set i.toNat (⟨(m.List_.getD i.toNat default).Slot, (m.List_.getD i.toNat default).Ballot, (m.List_.getD i.toNat default).Entry⟩ : GSlotted) = m.List_ := set_getD default _ _ hin
    rw [hset, wrap64 (by omega) (by omega)]
    exact ih ⟨i + 1, m.List_⟩ ⟨by simp; omega, by simp; omega, rfl⟩ (by simp; omega)
  · have : decide (i < ((m.List_.length : Nat) : Int)) = false := by simpa using hi
    simp only [this, cond_false]
    rw [cloneEntry_eq h3.1 h3.2, Option.bind_some, cloneOpsM h4, Option.bind_some, cloneBytesM h5, Option.bind_some]
theorem put_loop {S R α : Type} {body : S → (S → Option R) → Option R} (ix : S → Int) (g : S → List α) (n : Nat) (Q : R → Prop) (hN : n < N) (hn : n ≤ 1048576)
    (hb : ∀ s next, 0 ≤ ix s → ix s < n → n ≤ (g s).length → ∃ s', body s next = next s' ∧ ix s' = ix s + 1 ∧ (g s').length = (g s).length)
    (he : ∀ s next, ix s = n → n ≤ (g s).length → ∃ r, body s next = some r ∧ Q r) {s0 : S} (h0 : ix s0 = 0) (hg : n ≤ (g s0).length) : ∃ r, iter N body s0 = some r ∧ Q r := by
  refine iter_post (fun s => 0 ≤ ix s ∧ ix s ≤ n ∧ n ≤ (g s).length) (fun s => n - (ix s).toNat) Q ?_ N s0 ⟨by omega, by omega, hg⟩ (by omega)
  rintro s next ⟨p1, p2, p3⟩ hn
  by_cases hlt : ix s < n
  · obtain ⟨s', e, q1, q2⟩ := hb s next p1 hlt p3
    rw [e]
    exact hn s' ⟨by omega, by omega, by omega⟩ (by omega)
  · exact he s next (by omega) p3
theorem round_eq {x : Int} {x2 : GStamp} {x3 : GStamp} {x4 : GStamp} {x5 : Int} {x6 : Nat} {x7 : GEntry} {x8 : Int} {x9 : Vector (Int) 8} {x10 : Int} {x11 : Int} {x12 : Nat} {x13 : GEpoch} {x14 : Int} {x15 : Int} {x16 : Int} {x17 : Nat} {s : GSnap} {m : GMsg} {to : GStamp} {x18 : GSnap} {x19 : GSnap} {x20 : GMsg} {x21 : GMsg} {x22 : GSnap} {x23 : GStamp} {x24 : GStamp} {b1 : List (GSlotted)} {b2 : List (GOp)} {b3 : List (Int)} (hN : x12 < N) (hx : x12 ≤ 1048576) (hl : x12 ≤ b2.length) : ∃ q, Flaw16_ExchangeOwn_994 N x x2 x3 x4 x5 x6 x7 x8 x9 x10 x11 x12 x13 x14 x15 x16 x17 s m to x18 x19 x20 x21 x22 x23 x24 b1 b2 b3 = some (s, m, to, x18, x19, x20, x21, x22, x23, x24, b1, q, b3) := by
  have key : ∃ r, Flaw16_ExchangeOwn_994 N x x2 x3 x4 x5 x6 x7 x8 x9 x10 x11 x12 x13 x14 x15 x16 x17 s m to x18 x19 x20 x21 x22 x23 x24 b1 b2 b3 = some r ∧ ∃ q, r = (s, m, to, x18, x19, x20, x21, x22, x23, x24, b1, q, b3) := by
    unfold Flaw16_ExchangeOwn_994
    refine put_loop (fun s : Slaw16_ExchangeOwn_994x8 => s.t31) (fun s => s.g2) x12 _ hN hx ?_ ?_ rfl hl
    · intro s1 next p1 p2 p3
      rw [decide_eq_true (show s1.t31 < ((x12 : Nat) : Int) by omega), ibB_of p1 (by omega), decide_eq_true (show s1.t31.toNat < s1.g2.length by omega)]
      exact ⟨_, rfl, wrap64 (by omega) (by omega), by simp⟩
    · intro s1 next p1 p2
      rw [decide_eq_false (show ¬ s1.t31 < ((x12 : Nat) : Int) by omega)]
      exact ⟨_, rfl, _, rfl⟩
  obtain ⟨r, h1, q, rfl⟩ := key
  exact ⟨q, h1⟩
end
end Go.Proofs.Ytekpjhhbmjcbmaa
