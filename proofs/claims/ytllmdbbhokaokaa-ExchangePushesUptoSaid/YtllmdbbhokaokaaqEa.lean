/-
ExchangePushes: the document's messages, built in memory that is named by handles, and the program's, chunk by chunk, are one list.
-/
import Derived.Test.YtllmdbbhokaokaaqFp
import Derived.Test.YtllmdbbhokaokaaqTvT
import Derived.KernelRfl
set_option linter.unusedVariables false
set_option linter.unusedSimpArgs false
set_option maxRecDepth 100000
namespace Go.Proofs.Ytllmdbbhokaokaa
open Go Go.Ev
section
variable {N : Nat}
theorem phas_pos {α : Type} {ms : List (Option α)} {j : Nat} (h : phas ms j = true) : 1 ≤ j ∧ j ≤ ms.length := by
  unfold phas at h
  obtain ⟨l, hl⟩ := Option.isSome_iff_exists.1 h
  obtain ⟨i, rfl, hi⟩ := pget_some hl
  have := (List.getElem?_eq_some_iff.1 hi).1
  omega
theorem pset_len {α : Type} (ms : List (Option α)) (j : Nat) (x : Option α) : (pset ms j x).length = ms.length := by
  cases j <;> simp [pset]
theorem pget_old {α : Type} {ms : List (Option α)} {j k : Nat} (x c : Option α) (hk : phas ms k = true) (hne : k ≠ j) : pget (pset ms j x ++ [c]) k = pget ms k := by
  have hp := phas_pos hk
  obtain ⟨i, rfl⟩ : ∃ i, k = i + 1 := ⟨k - 1, by omega⟩
  have hl := pset_len ms j x
  simp only [pget]
  rw [List.getElem?_append_left (by omega)]
  cases j with
  | zero => rfl
  | succ j => simp only [pset]; rw [List.getElem?_set_ne (by omega)]
theorem pget_new {α : Type} (ms : List (Option α)) (c : Option α) : pget (ms ++ [c]) (ms.length + 1) = c := by simp [pget]
abbrev zV : Vector Int 8 := Vector.replicate 8 (default : Int)
abbrev zEp : GEpoch := ⟨0, zV, zV, zV⟩
abbrev zPt : GPart := ⟨0, 0, 0, []⟩
abbrev zEn : GEntry := ⟨0, 0, 0, ⟨⟨0, 0⟩, 0, 0, 0, [], [], []⟩, 0, 0, [], zEp, 0, zV, 0, zPt, 0, 0, 0⟩
def mk (s : GSnap) (fr to_ : GAddr) (o k : Int) (ops : List GOp) : GMsg := ⟨11, fr, to_, ⟨0, 0⟩, k, [], zEn, s.Epoch.Number, zV, 0, o, ops, zEp, zPt⟩
def mkH (s : GSnap) (fr to_ : GAddr) (o k : Int) (h : Hd) : GMsgH := ⟨11, fr, to_, ⟨0, 0⟩, k, [], zEn, s.Epoch.Number, zV, 0, o, h, zEp, zPt⟩
def vm (ms : List (Option (List GOp))) (x : GMsgH) : GMsg := ⟨x.Kind, x.From, x.To, x.Ballot, x.Slot, x.List_, x.Entry, x.Number, x.Vector_, x.Clock, x.Origin, pcon ms x.Ops.j, x.Epoch, x.Part⟩
structure Fine (s : GSnap) (fr to_ : GAddr) (ms : List (Option (List GOp))) (x : GMsgH) : Prop where
  eq : x = mkH s fr to_ x.Origin x.Slot x.Ops
  o : x.Ops.o = 0
  has : phas ms x.Ops.j = true
  n : (pcon ms x.Ops.j).length = x.Ops.n
structure Well (s : GSnap) (fr to_ : GAddr) (ms : List (Option (List GOp))) (g : List GMsgH) : Prop where
  fine : ∀ x ∈ g, Fine s fr to_ ms x
  dis : (g.map (·.Ops.j)).Nodup
variable {s : GSnap} {fr to_ : GAddr}
theorem vm_old {ms : List (Option (List GOp))} {j : Nat} (y c : Option (List GOp)) {x : GMsgH} (h : Fine s fr to_ ms x) (hne : x.Ops.j ≠ j) : Fine s fr to_ (pset ms j y ++ [c]) x ∧ vm (pset ms j y ++ [c]) x = vm ms x := by
  have e := pget_old y c h.has hne
  have e2 : pcon (pset ms j y ++ [c]) x.Ops.j = pcon ms x.Ops.j := by unfold pcon; rw [e]
  exact ⟨⟨h.eq, h.o, by unfold phas; rw [e]; exact h.has, by rw [e2]; exact h.n⟩, by unfold vm; rw [e2]⟩
def addOp (s : GSnap) (fr to_ : GAddr) (o k : Int) (x : GOp) (L : List GMsg) : List GMsg :=
  match L.getLast? with
  | some m => if m.Origin = o ∧ m.Ops.length < 16 then L.dropLast ++ [{ m with Ops := m.Ops ++ [x] }] else L ++ [mk s fr to_ o k [x]]
  | none => L ++ [mk s fr to_ o k [x]]
def adds (s : GSnap) (fr to_ : GAddr) (o : Int) : Int → List GOp → List GMsg → List GMsg
  | _, [], L => L
  | k, x :: r, L => adds s fr to_ o (k + 1) r (addOp s fr to_ o k x L)
def Shut (o : Int) (L : List GMsg) : Prop := ∀ m, L.getLast? = some m → ¬ (m.Origin = o ∧ m.Ops.length < 16)
theorem addOp_shut {o k : Int} {x : GOp} {L : List GMsg} (h : Shut o L) : addOp s fr to_ o k x L = L ++ [mk s fr to_ o k [x]] := by
  unfold addOp
  cases hl : L.getLast? with
  | none => rfl
  | some m => simp only []; rw [if_neg (h m hl)]
theorem addOp_open {o k : Int} {x : GOp} {L : List GMsg} {m : GMsg} (h1 : m.Origin = o) (h2 : m.Ops.length < 16) : addOp s fr to_ o k x (L ++ [m]) = L ++ [{ m with Ops := m.Ops ++ [x] }] := by
  unfold addOp
  simp [h1, h2]
theorem adds_open {o k : Int} (L : List GMsg) : ∀ (c2 c1 : List GOp) (k' : Int) (r : List GOp), c1.length + c2.length ≤ 16 → adds s fr to_ o k' (c2 ++ r) (L ++ [mk s fr to_ o k c1]) = adds s fr to_ o (k' + c2.length) r (L ++ [mk s fr to_ o k (c1 ++ c2)])
  | [], c1, k', r, _ => by simp
  | x :: c2, c1, k', r, h => by
    simp only [List.length_cons] at h
    rw [List.cons_append, adds, addOp_open (by rfl) (by show c1.length < 16; omega)]
    refine (adds_open (k := k) L c2 (c1 ++ [x]) (k' + 1) r (by simp; omega)).trans ?_
    simp only [List.append_assoc, List.cons_append, List.nil_append, List.length_cons]
    congr 1
    omega
theorem adds_chunk {o k : Int} {L : List GMsg} {c r : List GOp} (h : Shut o L) (h1 : 0 < c.length) (h2 : c.length ≤ 16) : adds s fr to_ o k (c ++ r) L = adds s fr to_ o (k + c.length) r (L ++ [mk s fr to_ o k c]) := by
  cases c with
  | nil => simp at h1
  | cons x c =>
    simp only [List.length_cons] at h2
    rw [List.cons_append, adds, addOp_shut h, adds_open L c [x] (k + 1) r (by simp; omega)]
    simp only [List.cons_append, List.nil_append, List.length_cons]
    congr 1
    omega
def ko (s : GSnap) (o : Int) : List GOp := vget s.Kept o.toNat default
def stt (s : GSnap) (o : Int) : Int := vget s.Starts o.toNat default
def kn (s : GSnap) (to_ : GAddr) (o : Int) : Int := vget (vget s.Known to_.Group.toNat default) o.toNat default
def skip (s : GSnap) (to_ : GAddr) (o : Int) : Bool := (decide (kn s to_ o < stt s o) || decide (stt s o < 0)) || decide (1099511627776 < kn s to_ o)
def idl (s : GSnap) (fr to_ : GAddr) : Nat → Int → Int → List GMsg → List GMsg
  | 0, _, _, L => L
  | n + 1, o, m, L => bif skip s to_ o then idl s fr to_ n (o + 1) m L else
    idl s fr to_ n (o + 1) (m - ((((ko s o).drop (kn s to_ o - stt s o).toNat).take m.toNat).length : Int)) (adds s fr to_ o (kn s to_ o) (((ko s o).drop (kn s to_ o - stt s o).toNat).take m.toNat) L)
theorem idl_le : ∀ (n : Nat) (o m : Int) (L : List GMsg), m ≤ 0 → idl s fr to_ n o m L = L
  | 0, _, _, _, _ => rfl
  | n + 1, o, m, L, h => by
    have : m.toNat = 0 := by omega
    rw [idl, this]
    simp only [List.take_zero, List.length_nil, adds]
    rw [idl_le n _ _ L h, show m - ((0 : Nat) : Int) = m by simp, idl_le n _ _ L h, Bool.cond_self]
end
end Go.Proofs.Ytllmdbbhokaokaa
