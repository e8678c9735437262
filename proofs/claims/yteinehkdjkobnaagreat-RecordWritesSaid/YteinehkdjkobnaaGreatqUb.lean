/-
A message's bytes by its kind; what Marshal answers, the program's and the document's.
-/
import Derived.Test.YteinehkdjkobnaaGreatqUa
set_option linter.unusedVariables false
set_option linter.unusedSimpArgs false
namespace Go.Proofs.YteinehkdjkobnaaGreat
open Go Go.Ev
def bdC (m : GMsg) : List (List Int) :=
  bif m.Kind == 1 then baC m.Ballot ++ [m.Slot].map pI else
  bif m.Kind == 2 then baC m.Ballot ++ [m.Slot].map pI ++ lsC m.List_ else
  bif m.Kind == 3 then baC m.Ballot ++ lsC m.List_ else
  bif m.Kind == 4 then baC m.Ballot ++ [m.Slot].map pI else
  bif m.Kind == 5 then baC m.Ballot else
  bif m.Kind == 6 then lsC m.List_ else
  bif m.Kind == 7 then baC m.Ballot ++ [m.Slot].map pI else
  bif m.Kind == 8 then [m.Slot].map pI else
  bif m.Kind == 9 then enC m.Entry else
  bif m.Kind == 10 then [m.Number].map pI ++ m.Vector_.toList.map pI ++ [m.Clock].map pI else
  bif m.Kind == 11 then [m.Number].map pI ++ [m.Origin].map pI ++ [m.Slot].map pI ++ opsC m.Ops else
  bif m.Kind == 12 then epC m.Epoch else
  bif m.Kind == 13 then ptC m.Part else
  bif m.Kind == 14 then [m.Number].map pI ++ m.Vector_.toList.map pI else
  bif m.Kind == 15 then [m.Slot].map pI ++ ptC m.Part else
  []
def hdC (m : GMsg) : List (List Int) := [m.Kind].map pI ++ [m.From.Group, m.From.Replica].map pI ++ [m.To.Group, m.To.Replica].map pI
def msC (m : GMsg) : List (List Int) := hdC m ++ bdC m
def msB (m : GMsg) : List Int := (msC m).flatten
structure MayMs (m : GMsg) : Prop where
  kind : kindM m
  bare : m = bareM m
  from_ : MayAd m.From
  to_ : MayAd m.To
  ba : MayBa m.Ballot
  slot : cnt m.Slot
  number : cnt m.Number
  clock : cnt m.Clock
  vec : zam m.Vector_
  sp : sp2 m = true
theorem byt_bareM {m : GMsg} (h : bytM m) : bytM (bareM m) := by
  obtain ⟨h1, h2, h3⟩ := h
  have r1 : ∀ x ∈ ([] : List zd), byt x.Entry.Part.Data := fun x hx => by cases hx
  have r2 : byt zEn.Part.Data := fun x hx => by cases hx
  have r4 : byt zPt.Data := fun x hx => by cases hx
  unfold bareM
  repeat' (refine (show ∀ (c : Bool) (x y : GMsg), bytM x → bytM y → bytM (bif c then x else y) from fun c x y hx hy => by cases c <;> assumption) _ _ _ ?_ ?_)
  all_goals exact ⟨by first | exact h1 | exact r1, by first | exact h2 | exact r2, by first | exact h3 | exact r4⟩
theorem zqo {m : GMsg} (hb : bytM m) : mayM m = true ↔ MayMs m := by
  unfold mayM numM
  simp only [Bool.and_eq_true, decide_eq_true_eq]
  rw [zqs hb (byt_bareM hb)]
  constructor
  · rintro ⟨⟨⟨⟨h1, h2⟩, h3, h4⟩, ⟨h5, ⟨h6, h7⟩, h8⟩, h9⟩, h10⟩
    exact ⟨h1, h2, h3, h4, h5, h6, h7, h8, h9, h10⟩
  · rintro ⟨h1, h2, h3, h4, h5, h6, h7, h8, h9, h10⟩
    exact ⟨⟨⟨⟨h1, h2⟩, h3, h4⟩, ⟨h5, ⟨h6, h7⟩, h8⟩, h9⟩, h10⟩
theorem maySl_iff {x : zd} (hb : byt x.Entry.Part.Data) : maySl x = true ↔ MaySl x := by
  unfold maySl MaySl
  simp only [Bool.and_eq_true, decide_eq_true_eq, zjo hb]
  exact and_assoc
theorem zvq {l : List zd} (hb : ∀ x ∈ l, byt x.Entry.Part.Data) {a b : Int} (h : z91 l a b = true) : (a ≤ (l.length : Int) ∧ (l.length : Int) ≤ b) ∧ ∀ x ∈ l, MaySl x := by
  unfold z91 at h
  simp only [Bool.and_eq_true, decide_eq_true_eq, List.all_eq_true] at h
  exact ⟨h.1, fun x hx => (maySl_iff (hb x hx)).1 (h.2 x hx)⟩
section
variable {N : Nat} {e0 : Int} {w : List Int}
def spP (m : GMsg) : Prop :=
  (m.Kind = 2 → m.List_.length ≤ 4096 ∧ ∀ x ∈ m.List_, MaySl x) ∧ (m.Kind = 3 → m.List_.length ≤ 4096 ∧ ∀ x ∈ m.List_, MaySl x) ∧ (m.Kind = 6 → m.List_.length ≤ 4096 ∧ ∀ x ∈ m.List_, MaySl x) ∧
  (m.Kind = 9 → MayEn m.Entry) ∧ (m.Kind = 11 → sit m.Origin ∧ z9o m.Ops) ∧ (m.Kind = 12 → MayEp m.Epoch) ∧ (m.Kind = 13 → MayPt m.Part) ∧ (m.Kind = 15 → MayPt m.Part)
theorem spP_of {m : GMsg} (hb : bytM m) (h : sp2 m = true) : spP m := by
  unfold sp2 at h
  refine ⟨fun e => ?_, fun e => ?_, fun e => ?_, fun e => ?_, fun e => ?_, fun e => ?_, fun e => ?_, fun e => ?_⟩ <;> rw [e] at h <;> simp only [Int.reduceBEq, cond_true, cond_false] at h
  · obtain ⟨⟨_, h1⟩, h2⟩ := zvq hb.1 h; exact ⟨by omega, h2⟩
  · obtain ⟨⟨_, h1⟩, h2⟩ := zvq hb.1 h; exact ⟨by omega, h2⟩
  · obtain ⟨⟨_, h1⟩, h2⟩ := zvq hb.1 h; exact ⟨by omega, h2⟩
  · exact (zjo hb.2.1).1 h
  · simpa using h
  · simpa using h
  · simpa using h
  · simpa using h
theorem ad64 {a : GAddr} (h : MayAd a) : R64 a.Group ∧ R64 a.Replica := by
  obtain ⟨⟨h1, h2⟩, h3, h4⟩ := h
  exact ⟨⟨by omega, by omega⟩, ⟨by omega, by omega⟩⟩
theorem z12x (m : GMsg) : (hdC m).flatten = ([m.Kind, m.From.Group, m.From.Replica, m.To.Group, m.To.Replica].map pI).flatten := by simp [hdC]
theorem z12y (b : zh) : (baC b).flatten = ([b.Round, b.Replica].map pI).flatten := by simp [baC]
theorem k64 {m : GMsg} (h : kindM m) : R64 m.Kind := ⟨by have := h.1; omega, by have := h.2; omega⟩
theorem hd5 {m : GMsg} (h : MayMs m) : ∀ n ∈ [m.Kind, m.From.Group, m.From.Replica, m.To.Group, m.To.Replica], R64 n := by
  intro n hn
  simp only [List.mem_cons, List.mem_nil_iff, or_false] at hn
  rcases hn with rfl | rfl | rfl | rfl | rfl
  · exact k64 h.kind
  · exact (ad64 h.from_).1
  · exact (ad64 h.from_).2
  · exact (ad64 h.to_).1
  · exact (ad64 h.to_).2
theorem zxj (hN : 20 ≤ N) {m : GMsg} (hr : roomM N m) (h : MayMs m) : zd5 N m = some (msB m) ∧ (msB m).length ≤ 15000001000 := by
  have hs := spP_of hr.byt h.sp
  have hk' := zxq h.kind
  have g1 : z1r N [m.Kind, m.From.Group, m.From.Replica, m.To.Group, m.To.Replica] = some (hdC m).flatten := by
    rw [zsp hN (by simp; omega) (by simp) (hd5 h), z12x]
  have g2 : z1r N [m.Ballot.Round, m.Ballot.Replica] = some (baC m.Ballot).flatten := by
    rw [zsp hN (by simp; omega) (by simp) (all2 (ba64 h.ba).1 (ba64 h.ba).2), z12y]
  have l0 : (hdC m).flatten.length ≤ 50 := by have := z2w (hd5 h); rw [z12x]; simpa using this
  have lb : (baC m.Ballot).flatten.length ≤ 20 := by have := z2w (all2 (ba64 h.ba).1 (ba64 h.ba).2); rw [z12y]; simpa using this
  have lS : ([m.Slot].map pI).flatten.length ≤ 10 := by have := z2w (all1 (cnt64 h.slot)); simpa using this
  have lN : ([m.Number].map pI).flatten.length ≤ 10 := by have := z2w (all1 (cnt64 h.number)); simpa using this
  have lC : ([m.Clock].map pI).flatten.length ≤ 10 := by have := z2w (all1 (cnt64 h.clock)); simpa using this
  have lV := vec_len (fun n hn => cnt64 (h.vec n hn))
  have gS : ∀ {b : List Int}, b.length ≤ 60000000000000 → zc N b [m.Slot] = some (b ++ ([m.Slot].map pI).flatten) := fun hb => zdw hN hb (by simp; omega) (by simp) (all1 (cnt64 h.slot))
  have gN : ∀ {b : List Int}, b.length ≤ 60000000000000 → zc N b [m.Number] = some (b ++ ([m.Number].map pI).flatten) := fun hb => zdw hN hb (by simp; omega) (by simp) (all1 (cnt64 h.number))
  have gC : ∀ {b : List Int}, b.length ≤ 60000000000000 → zc N b [m.Clock] = some (b ++ ([m.Clock].map pI).flatten) := fun hb => zdw hN hb (by simp; omega) (by simp) (all1 (cnt64 h.clock))
  have gV := z12v hN (fun n hn => cnt64 (h.vec n hn))
  unfold zd5
  rw [g1, Option.bind_some, g2, Option.bind_some]
  generalize hH : (hdC m).flatten = H at l0
  generalize hB : (baC m.Ballot).flatten = B at lb
  rcases hk' with hk | hk | hk | hk | hk | hk | hk | hk | hk | hk | hk | hk | hk | hk | hk
  · have e1 : msB m = H ++ (baC m.Ballot ++ [m.Slot].map pI).flatten := by unfold msB msC bdC; rw [hk, List.flatten_append, hH]; rfl
    rw [hk]; simp only [Int.reduceBEq, cond_true, cond_false]
    rw [z20 (by (try simp only [List.length_append]); omega), cond_true, gS (by (try simp only [List.length_append]); omega), Option.bind_some]
    rw [e1]; try simp only [List.flatten_append]
    rw [hB]
    exact ⟨by first | rfl | simp only [List.append_assoc], by (try simp only [List.length_append]); omega⟩
  · have e1 : msB m = H ++ (baC m.Ballot ++ [m.Slot].map pI ++ lsC m.List_).flatten := by unfold msB msC bdC; rw [hk, List.flatten_append, hH]; rfl
    obtain ⟨q1, q2⟩ := hs.1 hk
    have lL := z120 q1 q2
    rw [hk]; simp only [Int.reduceBEq, cond_true, cond_false]
    rw [z20 (by (try simp only [List.length_append]); omega), cond_true, gS (by (try simp only [List.length_append]); omega), Option.bind_some, zp7 hr.1 q1 q2, Option.bind_some, z20 (by (try simp only [List.length_append]); omega), cond_true]
    rw [e1]; try simp only [List.flatten_append]
    rw [hB]
    exact ⟨by first | rfl | simp only [List.append_assoc], by (try simp only [List.length_append]); omega⟩
  · have e1 : msB m = H ++ (baC m.Ballot ++ lsC m.List_).flatten := by unfold msB msC bdC; rw [hk, List.flatten_append, hH]; rfl
    obtain ⟨q1, q2⟩ := hs.2.1 hk
    have lL := z120 q1 q2
    rw [hk]; simp only [Int.reduceBEq, cond_true, cond_false]
    rw [z20 (by (try simp only [List.length_append]); omega), cond_true, zp7 hr.1 q1 q2, Option.bind_some, z20 (by (try simp only [List.length_append]); omega), cond_true]
    rw [e1]; try simp only [List.flatten_append]
    rw [hB]
    exact ⟨by first | rfl | simp only [List.append_assoc], by (try simp only [List.length_append]); omega⟩
  · have e1 : msB m = H ++ (baC m.Ballot ++ [m.Slot].map pI).flatten := by unfold msB msC bdC; rw [hk, List.flatten_append, hH]; rfl
    rw [hk]; simp only [Int.reduceBEq, cond_true, cond_false]
    rw [z20 (by (try simp only [List.length_append]); omega), cond_true, gS (by (try simp only [List.length_append]); omega), Option.bind_some]
    rw [e1]; try simp only [List.flatten_append]
    rw [hB]
    exact ⟨by first | rfl | simp only [List.append_assoc], by (try simp only [List.length_append]); omega⟩
  · have e1 : msB m = H ++ (baC m.Ballot).flatten := by unfold msB msC bdC; rw [hk, List.flatten_append, hH]; rfl
    rw [hk]; simp only [Int.reduceBEq, cond_true, cond_false]
    rw [z20 (by (try simp only [List.length_append]); omega), cond_true]
    rw [e1]; try simp only [List.flatten_append]
    rw [hB]
    exact ⟨by first | rfl | simp only [List.append_assoc], by (try simp only [List.length_append]); omega⟩
  · have e1 : msB m = H ++ (lsC m.List_).flatten := by unfold msB msC bdC; rw [hk, List.flatten_append, hH]; rfl
    obtain ⟨q1, q2⟩ := hs.2.2.1 hk
    have lL := z120 q1 q2
    rw [hk]; simp only [Int.reduceBEq, cond_true, cond_false]
    rw [zp7 hr.1 q1 q2, Option.bind_some, z20 (by (try simp only [List.length_append]); omega), cond_true]
    rw [e1]; try simp only [List.flatten_append]
    exact ⟨by first | rfl | simp only [List.append_assoc], by (try simp only [List.length_append]); omega⟩
  · have e1 : msB m = H ++ (baC m.Ballot ++ [m.Slot].map pI).flatten := by unfold msB msC bdC; rw [hk, List.flatten_append, hH]; rfl
    rw [hk]; simp only [Int.reduceBEq, cond_true, cond_false]
    rw [z20 (by (try simp only [List.length_append]); omega), cond_true, gS (by (try simp only [List.length_append]); omega), Option.bind_some]
    rw [e1]; try simp only [List.flatten_append]
    rw [hB]
    exact ⟨by first | rfl | simp only [List.append_assoc], by (try simp only [List.length_append]); omega⟩
  · have e1 : msB m = H ++ ([m.Slot].map pI).flatten := by unfold msB msC bdC; rw [hk, List.flatten_append, hH]; rfl
    rw [hk]; simp only [Int.reduceBEq, cond_true, cond_false]
    rw [gS (by omega), Option.bind_some]
    rw [e1]; try simp only [List.flatten_append]
    exact ⟨by first | rfl | simp only [List.append_assoc], by (try simp only [List.length_append]); omega⟩
  · have e1 : msB m = H ++ (enC m.Entry).flatten := by unfold msB msC bdC; rw [hk, List.flatten_append, hH]; rfl
    have q := zdk hr.2.1.1 (hs.2.2.2.1 hk)
    have lE : (enC m.Entry).flatten.length ≤ 3500000 := q.2
    rw [hk]; simp only [Int.reduceBEq, cond_true, cond_false]
    rw [q.1, Option.bind_some, show enB m.Entry = (enC m.Entry).flatten from rfl, z20 (by (try simp only [List.length_append]); omega), cond_true]
    rw [e1]; try simp only [List.flatten_append]
    exact ⟨by first | rfl | simp only [List.append_assoc], by (try simp only [List.length_append]); omega⟩
  · have e1 : msB m = H ++ ([m.Number].map pI ++ m.Vector_.toList.map pI ++ [m.Clock].map pI).flatten := by unfold msB msC bdC; rw [hk, List.flatten_append, hH]; rfl
    rw [hk]; simp only [Int.reduceBEq, cond_true, cond_false]
    rw [gN (by omega), Option.bind_some, gV, Option.bind_some, z20 (by (try simp only [List.length_append]); omega), cond_true, gC (by (try simp only [List.length_append]); omega), Option.bind_some]
    rw [e1]; try simp only [List.flatten_append]
    exact ⟨by first | rfl | simp only [List.append_assoc], by (try simp only [List.length_append]); omega⟩
  · have e1 : msB m = H ++ ([m.Number].map pI ++ [m.Origin].map pI ++ [m.Slot].map pI ++ opsC m.Ops).flatten := by unfold msB msC bdC; rw [hk, List.flatten_append, hH]; rfl
    obtain ⟨q1, q2⟩ := hs.2.2.2.2.1 hk
    have lO := z12t q2
    have l3 : ([m.Number, m.Origin, m.Slot].map pI).flatten.length ≤ 30 := by have := z2w (all3 (cnt64 h.number) (sit64 q1) (cnt64 h.slot)); simpa using this
    rw [hk]; simp only [Int.reduceBEq, cond_true, cond_false]
    rw [zdw hN (by omega) (by simp; omega) (by simp) (all3 (cnt64 h.number) (sit64 q1) (cnt64 h.slot)), Option.bind_some, zxi hr.2.2.1.1 q2.2.1 q2.2.2, Option.bind_some, z20 (by (try simp only [List.length_append]); omega), cond_true]
    have e2 : ([m.Number].map pI ++ [m.Origin].map pI ++ [m.Slot].map pI ++ opsC m.Ops).flatten = ([m.Number, m.Origin, m.Slot].map pI).flatten ++ (opsC m.Ops).flatten := by simp
    rw [e1, e2]
    exact ⟨by rw [List.append_assoc], by (try simp only [List.length_append]); omega⟩
  · have e1 : msB m = H ++ (epC m.Epoch).flatten := by unfold msB msC bdC; rw [hk, List.flatten_append, hH]; rfl
    have q := hs.2.2.2.2.2.1 hk
    have lP : (epC m.Epoch).flatten.length ≤ 250 := epB_len q
    rw [hk]; simp only [Int.reduceBEq, cond_true, cond_false]
    rw [zst hN q, Option.bind_some, show epB m.Epoch = (epC m.Epoch).flatten from rfl, z20 (by (try simp only [List.length_append]); omega), cond_true]
    rw [e1]; try simp only [List.flatten_append]
    exact ⟨by first | rfl | simp only [List.append_assoc], by (try simp only [List.length_append]); omega⟩
  · have e1 : msB m = H ++ (ptC m.Part).flatten := by unfold msB msC bdC; rw [hk, List.flatten_append, hH]; rfl
    have q := hs.2.2.2.2.2.2.1 hk
    have lP := z11z q
    rw [hk]; simp only [Int.reduceBEq, cond_true, cond_false]
    rw [zp6 hN q, Option.bind_some, z20 (by (try simp only [List.length_append]); omega), cond_true]
    rw [e1]; try simp only [List.flatten_append]
    exact ⟨by first | rfl | simp only [List.append_assoc], by (try simp only [List.length_append]); omega⟩
  · have e1 : msB m = H ++ ([m.Number].map pI ++ m.Vector_.toList.map pI).flatten := by unfold msB msC bdC; rw [hk, List.flatten_append, hH]; rfl
    rw [hk]; simp only [Int.reduceBEq, cond_true, cond_false]
    rw [gN (by omega), Option.bind_some, gV, Option.bind_some, z20 (by (try simp only [List.length_append]); omega), cond_true]
    rw [e1]; try simp only [List.flatten_append]
    exact ⟨by first | rfl | simp only [List.append_assoc], by (try simp only [List.length_append]); omega⟩
  · have e1 : msB m = H ++ ([m.Slot].map pI ++ ptC m.Part).flatten := by unfold msB msC bdC; rw [hk, List.flatten_append, hH]; rfl
    have q := hs.2.2.2.2.2.2.2 hk
    have lP := z11z q
    rw [hk]; simp only [Int.reduceBEq, cond_true, cond_false]
    rw [gS (by omega), Option.bind_some, zp6 hN q, Option.bind_some, z20 (by (try simp only [List.length_append]); omega), cond_true]
    rw [e1]; try simp only [List.flatten_append]
    exact ⟨by first | rfl | simp only [List.append_assoc], by (try simp only [List.length_append]); omega⟩
theorem msgw_eq (hN : 20 ≤ N) {m : GMsg} (hr : roomM N m) (h : MayMs m) (hw : w.length ≤ 1048576) : z5p N m e0 true w = some (wr e0 w (msC m)) := by
  have hs := spP_of hr.byt h.sp
  have hk' := zxq h.kind
  unfold z5p
  rw [znm hN (k64 h.kind) hw, Option.bind_some, z2l, adw_eq hN h.from_ (z1m hw _), z1g, Option.bind_some, z2l, adw_eq hN h.to_ (z1m hw _), z1g, Option.bind_some, z2l]
  have e0' : msC m = ([m.Kind].map pI ++ [m.From.Group, m.From.Replica].map pI ++ [m.To.Group, m.To.Replica].map pI) ++ bdC m := rfl
  rw [e0']
  generalize ([m.Kind].map pI ++ [m.From.Group, m.From.Replica].map pI ++ [m.To.Group, m.To.Replica].map pI) = H
  rcases hk' with hk | hk | hk | hk | hk | hk | hk | hk | hk | hk | hk | hk | hk | hk | hk
  · have e1 : bdC m = baC m.Ballot ++ [m.Slot].map pI := by unfold bdC; rw [hk]; rfl
    rw [hk]; simp only [Int.reduceBEq, cond_true, cond_false]
    rw [zvp hN h.ba (z1m hw _), z1g, Option.bind_some, z2l, ints1 hN (cnt64 h.slot) (z1m hw _), z1g, Option.bind_some]
    first | (rw [e1]; done) | (rw [e1]; rfl) | (rw [e1]; simp only [List.append_assoc]; done) | (rw [e1]; simp only [List.append_assoc]; rfl)
  · have e1 : bdC m = baC m.Ballot ++ [m.Slot].map pI ++ lsC m.List_ := by unfold bdC; rw [hk]; rfl
    obtain ⟨q1, q2⟩ := hs.1 hk
    rw [hk]; simp only [Int.reduceBEq, cond_true, cond_false]
    rw [zvp hN h.ba (z1m hw _), z1g, Option.bind_some, z2l, ints1 hN (cnt64 h.slot) (z1m hw _), z1g, Option.bind_some, z2l, lsw_eq hr.1 q1 q2 (z1m hw _), z1g, Option.bind_some]
    first | (rw [e1]; done) | (rw [e1]; rfl) | (rw [e1]; simp only [List.append_assoc]; done) | (rw [e1]; simp only [List.append_assoc]; rfl)
  · have e1 : bdC m = baC m.Ballot ++ lsC m.List_ := by unfold bdC; rw [hk]; rfl
    obtain ⟨q1, q2⟩ := hs.2.1 hk
    rw [hk]; simp only [Int.reduceBEq, cond_true, cond_false]
    rw [zvp hN h.ba (z1m hw _), z1g, Option.bind_some, z2l, lsw_eq hr.1 q1 q2 (z1m hw _), z1g, Option.bind_some]
    first | (rw [e1]; done) | (rw [e1]; rfl) | (rw [e1]; simp only [List.append_assoc]; done) | (rw [e1]; simp only [List.append_assoc]; rfl)
  · have e1 : bdC m = baC m.Ballot ++ [m.Slot].map pI := by unfold bdC; rw [hk]; rfl
    rw [hk]; simp only [Int.reduceBEq, cond_true, cond_false]
    rw [zvp hN h.ba (z1m hw _), z1g, Option.bind_some, z2l, ints1 hN (cnt64 h.slot) (z1m hw _), z1g, Option.bind_some]
    first | (rw [e1]; done) | (rw [e1]; rfl) | (rw [e1]; simp only [List.append_assoc]; done) | (rw [e1]; simp only [List.append_assoc]; rfl)
  · have e1 : bdC m = baC m.Ballot := by unfold bdC; rw [hk]; rfl
    rw [hk]; simp only [Int.reduceBEq, cond_true, cond_false]
    rw [zvp hN h.ba (z1m hw _), z1g, Option.bind_some]
    first | (rw [e1]; done) | (rw [e1]; rfl) | (rw [e1]; simp only [List.append_assoc]; done) | (rw [e1]; simp only [List.append_assoc]; rfl)
  · have e1 : bdC m = lsC m.List_ := by unfold bdC; rw [hk]; rfl
    obtain ⟨q1, q2⟩ := hs.2.2.1 hk
    rw [hk]; simp only [Int.reduceBEq, cond_true, cond_false]
    rw [lsw_eq hr.1 q1 q2 (z1m hw _), z1g, Option.bind_some]
    first | (rw [e1]; done) | (rw [e1]; rfl) | (rw [e1]; simp only [List.append_assoc]; done) | (rw [e1]; simp only [List.append_assoc]; rfl)
  · have e1 : bdC m = baC m.Ballot ++ [m.Slot].map pI := by unfold bdC; rw [hk]; rfl
    rw [hk]; simp only [Int.reduceBEq, cond_true, cond_false]
    rw [zvp hN h.ba (z1m hw _), z1g, Option.bind_some, z2l, ints1 hN (cnt64 h.slot) (z1m hw _), z1g, Option.bind_some]
    first | (rw [e1]; done) | (rw [e1]; rfl) | (rw [e1]; simp only [List.append_assoc]; done) | (rw [e1]; simp only [List.append_assoc]; rfl)
  · have e1 : bdC m = [m.Slot].map pI := by unfold bdC; rw [hk]; rfl
    rw [hk]; simp only [Int.reduceBEq, cond_true, cond_false]
    rw [ints1 hN (cnt64 h.slot) (z1m hw _), z1g, Option.bind_some]
    first | (rw [e1]; done) | (rw [e1]; rfl) | (rw [e1]; simp only [List.append_assoc]; done) | (rw [e1]; simp only [List.append_assoc]; rfl)
  · have e1 : bdC m = enC m.Entry := by unfold bdC; rw [hk]; rfl
    rw [hk]; simp only [Int.reduceBEq, cond_true, cond_false]
    rw [zvz hr.2.1.1 (hs.2.2.2.1 hk) (z1m hw _), z1g, Option.bind_some]
    first | (rw [e1]; done) | (rw [e1]; rfl) | (rw [e1]; simp only [List.append_assoc]; done) | (rw [e1]; simp only [List.append_assoc]; rfl)
  · have e1 : bdC m = [m.Number].map pI ++ m.Vector_.toList.map pI ++ [m.Clock].map pI := by unfold bdC; rw [hk]; rfl
    rw [hk]; simp only [Int.reduceBEq, cond_true, cond_false]
    rw [ints1 hN (cnt64 h.number) (z1m hw _), z1g, Option.bind_some, z2l, ints8 hN (fun n hn => cnt64 (h.vec n hn)) (z1m hw _), z1g, Option.bind_some, z2l, ints1 hN (cnt64 h.clock) (z1m hw _), z1g, Option.bind_some]
    first | (rw [e1]; done) | (rw [e1]; rfl) | (rw [e1]; simp only [List.append_assoc]; done) | (rw [e1]; simp only [List.append_assoc]; rfl)
  · have e1 : bdC m = [m.Number].map pI ++ [m.Origin].map pI ++ [m.Slot].map pI ++ opsC m.Ops := by unfold bdC; rw [hk]; rfl
    obtain ⟨q1, q2⟩ := hs.2.2.2.2.1 hk
    rw [hk]; simp only [Int.reduceBEq, cond_true, cond_false]
    rw [ints1 hN (cnt64 h.number) (z1m hw _), z1g, Option.bind_some, z2l, znm hN (sit64 q1) (z1m hw _), z1g, Option.bind_some, z2l, ints1 hN (cnt64 h.slot) (z1m hw _), z1g, Option.bind_some, z2l, opsw_eq hr.2.2.1.1 q2 (z1m hw _), z1g, Option.bind_some]
    first | (rw [e1]; done) | (rw [e1]; rfl) | (rw [e1]; simp only [List.append_assoc]; done) | (rw [e1]; simp only [List.append_assoc]; rfl)
  · have e1 : bdC m = epC m.Epoch := by unfold bdC; rw [hk]; rfl
    rw [hk]; simp only [Int.reduceBEq, cond_true, cond_false]
    rw [epw_eq hN (hs.2.2.2.2.2.1 hk) (z1m hw _), z1g, Option.bind_some]
    first | (rw [e1]; done) | (rw [e1]; rfl) | (rw [e1]; simp only [List.append_assoc]; done) | (rw [e1]; simp only [List.append_assoc]; rfl)
  · have e1 : bdC m = ptC m.Part := by unfold bdC; rw [hk]; rfl
    rw [hk]; simp only [Int.reduceBEq, cond_true, cond_false]
    rw [ptw_eq hN (hs.2.2.2.2.2.2.1 hk) (z1m hw _), z1g, Option.bind_some]
    first | (rw [e1]; done) | (rw [e1]; rfl) | (rw [e1]; simp only [List.append_assoc]; done) | (rw [e1]; simp only [List.append_assoc]; rfl)
  · have e1 : bdC m = [m.Number].map pI ++ m.Vector_.toList.map pI := by unfold bdC; rw [hk]; rfl
    rw [hk]; simp only [Int.reduceBEq, cond_true, cond_false]
    rw [ints1 hN (cnt64 h.number) (z1m hw _), z1g, Option.bind_some, z2l, ints8 hN (fun n hn => cnt64 (h.vec n hn)) (z1m hw _), z1g, Option.bind_some]
    first | (rw [e1]; done) | (rw [e1]; rfl) | (rw [e1]; simp only [List.append_assoc]; done) | (rw [e1]; simp only [List.append_assoc]; rfl)
  · have e1 : bdC m = [m.Slot].map pI ++ ptC m.Part := by unfold bdC; rw [hk]; rfl
    rw [hk]; simp only [Int.reduceBEq, cond_true, cond_false]
    rw [ints1 hN (cnt64 h.slot) (z1m hw _), z1g, Option.bind_some, z2l, ptw_eq hN (hs.2.2.2.2.2.2.2 hk) (z1m hw _), z1g, Option.bind_some]
    first | (rw [e1]; done) | (rw [e1]; rfl) | (rw [e1]; simp only [List.append_assoc]; done) | (rw [e1]; simp only [List.append_assoc]; rfl)
theorem sl_CB {x : zd} (h : MaySl x) (hb : byt x.Entry.Part.Data) : CB (slC x) :=
  ((CB.int1 (cnt64 h.1)).append ((CB.int1 (ba64 h.2.1).1).append (CB.int1 (ba64 h.2.1).2))).append (CB.en h.2.2 hb)
theorem ls_CB {l : List zd} (hl : l.length ≤ 4096) (h : ∀ x ∈ l, MaySl x) (hb : ∀ x ∈ l, byt x.Entry.Part.Data) : CB (lsC l) :=
  (CB.int1 ⟨by omega, by omega⟩).append fun c hc => by
    obtain ⟨cs, hcs, hc⟩ := List.mem_flatten.1 hc
    obtain ⟨o, ho, rfl⟩ := List.mem_map.1 hcs
    exact sl_CB (h o ho) (hb o ho) c hc
theorem ms_CB {m : GMsg} (hb : bytM m) (h : MayMs m) : CB (msC m) := by
  have hs := spP_of hb h.sp
  have hk' := zxq h.kind
  refine (((CB.int1 (k64 h.kind)).append (CB.int2 (ad64 h.from_).1 (ad64 h.from_).2)).append (CB.int2 (ad64 h.to_).1 (ad64 h.to_).2)).append ?_
  rcases hk' with hk | hk | hk | hk | hk | hk | hk | hk | hk | hk | hk | hk | hk | hk | hk
  · rw [show bdC m = baC m.Ballot ++ [m.Slot].map pI by unfold bdC; rw [hk]; rfl]
    exact ((((CB.int1 (ba64 h.ba).1).append (CB.int1 (ba64 h.ba).2))).append (CB.int1 (cnt64 h.slot)))
  · rw [show bdC m = baC m.Ballot ++ [m.Slot].map pI ++ lsC m.List_ by unfold bdC; rw [hk]; rfl]
    obtain ⟨q1, q2⟩ := hs.1 hk
    exact (((((CB.int1 (ba64 h.ba).1).append (CB.int1 (ba64 h.ba).2))).append (CB.int1 (cnt64 h.slot))).append (ls_CB q1 q2 hb.1))
  · rw [show bdC m = baC m.Ballot ++ lsC m.List_ by unfold bdC; rw [hk]; rfl]
    obtain ⟨q1, q2⟩ := hs.2.1 hk
    exact ((((CB.int1 (ba64 h.ba).1).append (CB.int1 (ba64 h.ba).2))).append (ls_CB q1 q2 hb.1))
  · rw [show bdC m = baC m.Ballot ++ [m.Slot].map pI by unfold bdC; rw [hk]; rfl]
    exact ((((CB.int1 (ba64 h.ba).1).append (CB.int1 (ba64 h.ba).2))).append (CB.int1 (cnt64 h.slot)))
  · rw [show bdC m = baC m.Ballot by unfold bdC; rw [hk]; rfl]
    exact (((CB.int1 (ba64 h.ba).1).append (CB.int1 (ba64 h.ba).2)))
  · rw [show bdC m = lsC m.List_ by unfold bdC; rw [hk]; rfl]
    obtain ⟨q1, q2⟩ := hs.2.2.1 hk
    exact (ls_CB q1 q2 hb.1)
  · rw [show bdC m = baC m.Ballot ++ [m.Slot].map pI by unfold bdC; rw [hk]; rfl]
    exact ((((CB.int1 (ba64 h.ba).1).append (CB.int1 (ba64 h.ba).2))).append (CB.int1 (cnt64 h.slot)))
  · rw [show bdC m = [m.Slot].map pI by unfold bdC; rw [hk]; rfl]
    exact (CB.int1 (cnt64 h.slot))
  · rw [show bdC m = enC m.Entry by unfold bdC; rw [hk]; rfl]
    exact (CB.en (hs.2.2.2.1 hk) hb.2.1)
  · rw [show bdC m = [m.Number].map pI ++ m.Vector_.toList.map pI ++ [m.Clock].map pI by unfold bdC; rw [hk]; rfl]
    exact (((CB.int1 (cnt64 h.number)).append (CB.ints (fun n hn => cnt64 (h.vec n hn)))).append (CB.int1 (cnt64 h.clock)))
  · rw [show bdC m = [m.Number].map pI ++ [m.Origin].map pI ++ [m.Slot].map pI ++ opsC m.Ops by unfold bdC; rw [hk]; rfl]
    obtain ⟨q1, q2⟩ := hs.2.2.2.2.1 hk
    exact ((((CB.int1 (cnt64 h.number)).append (CB.int1 (sit64 q1))).append (CB.int1 (cnt64 h.slot))).append (CB.ops q2))
  · rw [show bdC m = epC m.Epoch by unfold bdC; rw [hk]; rfl]
    exact (CB.ep (hs.2.2.2.2.2.1 hk))
  · rw [show bdC m = ptC m.Part by unfold bdC; rw [hk]; rfl]
    exact (CB.pt (hs.2.2.2.2.2.2.1 hk) hb.2.2)
  · rw [show bdC m = [m.Number].map pI ++ m.Vector_.toList.map pI by unfold bdC; rw [hk]; rfl]
    exact ((CB.int1 (cnt64 h.number)).append (CB.ints (fun n hn => cnt64 (h.vec n hn))))
  · rw [show bdC m = [m.Slot].map pI ++ ptC m.Part by unfold bdC; rw [hk]; rfl]
    exact ((CB.int1 (cnt64 h.slot)).append (CB.pt (hs.2.2.2.2.2.2.2 hk) hb.2.2))
theorem msB_byt {m : GMsg} (hb : bytM m) (h : MayMs m) : byt (msB m) := (ms_CB hb h).flat
theorem zxk (hN : 1048700 ≤ N) {m : GMsg} (hr : roomM N m) :
    (MayMs m ∧ (msB m).length ≤ 1048576 ∧ z3o N m = some (zxm (msB m), 0)) ∨ (MayMs m ∧ 1048576 < (msB m).length ∧ z3o N m = some ([], 3)) ∨ (¬ MayMs m ∧ z3o N m = some ([], 40)) := by
  unfold z3o z8g
  rw [z124 (by omega) hr, Option.bind_some]
  by_cases hm : MayMs m
  · rw [(zqo hr.byt).2 hm]
    simp only [cond_true, beq_self_eq_true, Bool.not_true, cond_false, Option.bind_some]
    rw [msgw_eq (by omega) hr hm (by simp), Option.bind_some]
    by_cases h : (msB m).length ≤ 1048576
    · refine .inl ⟨hm, h, ?_⟩
      rw [wr_fit (by simpa [msB] using h)]
      simp only [beq_self_eq_true, Bool.not_true, cond_false, List.nil_append]
      rw [F20_eq (by simpa [msB] using h), Option.bind_some]
      show (zel N (msB m)).bind _ = _
      rw [F35_eq (by omega) (msB_byt hr.byt hm), if_neg (by omega)]
      rfl
    · refine .inr (.inl ⟨hm, by omega, ?_⟩)
      have : (wr 0 [] (msC m)).1 = 3 := zvu _ _ (by simp) (by simp only [List.length_nil]; unfold msB at h; omega)
      rw [this]; rfl
  · refine .inr (.inr ⟨hm, ?_⟩)
    have : mayM m = false := by rw [Bool.eq_false_iff]; exact fun e => hm ((zqo hr.byt).1 e)
    rw [this]; rfl
theorem zzi (hN : 1048700 ≤ N) {m : GMsg} (hr : roomM N m) : zd6 N m = z3o N m := by
  unfold zd6
  rw [z118 (by omega) hr, Option.bind_some]
  rcases zxk hN hr with ⟨hm, hl, h⟩ | ⟨hm, hl, h⟩ | ⟨hm, h⟩
  · rw [h, (zqo hr.byt).2 hm, (zxj (by omega) hr hm).1]
    have : decide (1048576 < ((msB m).length : Int)) = false := by simp; omega
    simp only [Bool.not_true, cond_false, Option.bind_some, this]
    rw [F38_eq (by omega) (msB_byt hr.byt hm), if_neg (by omega)]
    rfl
  · rw [h, (zqo hr.byt).2 hm, (zxj (by omega) hr hm).1]
    have : decide (1048576 < ((msB m).length : Int)) = true := by simp; omega
    simp only [Bool.not_true, cond_false, Option.bind_some, this]
    rfl
  · have h0 : mayM m = false := by rw [Bool.eq_false_iff]; exact fun e => hm ((zqo hr.byt).1 e)
    rw [h, h0]; rfl
theorem z121 {e : z6} (hN : e.Ops.length + 20 ≤ N) (hl : e.Ops.length ≤ 9223372036854775807) (hb : byt e.Part.Data) : zgs N e = z4q N e := by
  unfold zgs
  rcases z137 hN hl hb with ⟨hm, hs, h⟩ | ⟨hm, hs, h⟩ | ⟨hm, h⟩
  · rcases zd9 hN hl hb with ⟨_, q⟩ | ⟨q, _⟩
    · rw [h, q, Option.bind_some, (zdk hN hm).1]
      have : decide (1048576 < ((enB e).length : Int)) = false := by simp; omega
      simp only [Bool.not_true, cond_false, Option.bind_some, this]
    · exact absurd hm q
  · rcases zd9 hN hl hb with ⟨_, q⟩ | ⟨q, _⟩
    · rw [h, q, Option.bind_some, (zdk hN hm).1]
      have : decide (1048576 < ((enB e).length : Int)) = true := by simp; omega
      simp only [Bool.not_true, cond_false, Option.bind_some, this, cond_true]
    · exact absurd hm q
  · rcases zd9 hN hl hb with ⟨q, _⟩ | ⟨_, q⟩
    · exact absurd q hm
    · rw [h, q]; rfl
theorem z13j (s : Int) : byt (four s) := four_byte s
theorem frame_byt {b : List Int} (hl : b.length ≤ 1048576) (hb : byt b) : byt (zxm b) := fun x hx => by
  unfold zxm at hx
  rcases List.mem_append.1 hx with hx | hx
  · rcases List.mem_append.1 hx with hx | hx
    · exact pI_byt (n := (b.length : Int)) ⟨by omega, by omega⟩ x hx
    · exact hb x hx
  · exact z13j _ x hx
theorem zwt (hN : 1048700 ≤ N) {x : z6} {m : GMsg} (hx : x.Ops.length + 20 ≤ N ∧ x.Ops.length ≤ 9223372036854775807 ∧ byt x.Part.Data) (hm : roomM N m) : z7l N x m = some true := by
  unfold z7l
  rw [z121 hx.1 hx.2.1 hx.2.2, zzi hN hm, begun_eq (by omega)]
  have eqs : ∀ {l : List Int}, byt l → z8f N l l = some true := fun h => by rw [equal_eq N h h]; simp
  have k1 : ∃ l c, z4q N x = some (l, c) ∧ byt l := by
    rcases z137 hx.1 hx.2.1 hx.2.2 with ⟨hm, hs, h⟩ | ⟨hm, hs, h⟩ | ⟨hm, h⟩
    · exact ⟨_, _, h, (CB.en hm hx.2.2).flat⟩
    · exact ⟨_, _, h, fun x hx => by cases hx⟩
    · exact ⟨_, _, h, fun x hx => by cases hx⟩
  have k2 : ∃ l c, z3o N m = some (l, c) ∧ byt l := by
    rcases zxk hN hm with ⟨h1, hs, h⟩ | ⟨_, hs, h⟩ | ⟨_, h⟩
    · exact ⟨_, _, h, frame_byt hs (ms_CB hm.byt h1).flat⟩
    · exact ⟨_, _, h, fun x hx => by cases hx⟩
    · exact ⟨_, _, h, fun x hx => by cases hx⟩
  obtain ⟨l, c, h1, h2⟩ := k1
  obtain ⟨l', c', h1', h2'⟩ := k2
  rw [h1, h1']
  simp only [Option.bind_some, eqs h2, eqs h2', beq_self_eq_true, Bool.and_self, Bool.and_true, cond_true]
end
end Go.Proofs.YteinehkdjkobnaaGreat
