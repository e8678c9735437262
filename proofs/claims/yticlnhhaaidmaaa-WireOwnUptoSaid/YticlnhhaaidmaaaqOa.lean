/-
Loops of WireOwn, and what its windowed functions compute.
-/
import Derived.Test.YticlnhhaaidmaaaqWo
import Derived.KernelRfl
set_option linter.unusedVariables false
set_option linter.unusedSimpArgs false
namespace Go.Proofs.Yticlnhhaaidmaaa
open Go Go.Ev
def flipK (k : Nat) (l : List Int) : List Int := (l.take k).map (fun x => bits .xor .u8 x 255) ++ l.drop k
theorem flipK_len (k : Nat) (l : List Int) : (flipK k l).length = l.length := by simp [flipK]; omega
theorem flipK_step {k : Nat} {l : List Int} (h : k < l.length) : (flipK k l).set k (bits .xor .u8 ((flipK k l).getD k default) 255) = flipK (k + 1) l := by
  have hk : ((l.take k).map (fun x => bits .xor .u8 x 255)).length = k := by simp; omega
  have hd : l.drop k = l[k] :: l.drop (k + 1) := List.drop_eq_getElem_cons h
  have hg : (flipK k l).getD k default = l[k] := by
    unfold flipK
    rw [List.getD, List.getElem?_append_right (by omega), hk, Nat.sub_self, hd]
    rfl
  rw [hg]
  unfold flipK
  rw [List.set_append_right _ _ (by omega), hk, Nat.sub_self, hd, List.set_cons_zero, List.take_succ_eq_append_getElem h, List.map_append, List.append_assoc]
  rfl
theorem flipK_at {k i : Nat} {l : List Int} (h : i < k) (h' : i < l.length) : (flipK k l).getD i default = bits .xor .u8 l[i] 255 := by
  unfold flipK
  rw [List.getD, List.getElem?_append_left (by simp; omega), List.getElem?_map, List.getElem?_take_of_lt h, List.getElem?_eq_getElem h']
  rfl
theorem flip_loop {S R : Type} (t : S → Int) (g : S → List Int) (mk : Int → List Int → S) (h1 : ∀ i l, t (mk i l) = i) (h2 : ∀ i l, g (mk i l) = l) {K : S → Option R} {N n : Nat} {l : List Int} (hN : n < N) (hn : n ≤ l.length) (hs : n ≤ 4611686018427387904) :
    iter N (fun (s : S) (next : S → Option R) =>
      (bif (decide (t s < ((n : Nat) : Int))) then
      (bif (ibB (t s) ((n : Nat) : Int)) then
      (bif (decide ((t s).toNat < (g s).length)) then
      (bif (ibB (t s) ((n : Nat) : Int)) then
      (bif (decide ((t s).toNat < (g s).length)) then
      (next (mk (IntKind.i64.wrap (t s + 1)) ((g s).set ((t s).toNat) (bits .xor .u8 ((g s).getD ((t s).toNat) default) 255))))
      else none)
      else none)
      else none)
      else none)
      else K s)) (mk 0 l) = K (mk (n : Int) (flipK n l)) := by
  have h0 : mk 0 l = mk ((0 : Nat) : Int) (flipK 0 l) := by simp [flipK]
  rw [h0]
  refine (iter_path (fun k => mk (k : Int) (flipK k l)) n (fun _ => none) (K (mk (n : Int) (flipK n l))) (fun k next hk => ?_) (fun next => ?_) N hN).trans ?_
  · simp only [h1, h2]
    have d1 : decide ((k : Int) < (n : Int)) = true := decide_eq_true (by omega)
    have d2 : decide ((k : Int).toNat < (flipK k l).length) = true := decide_eq_true (by rw [flipK_len]; omega)
    rw [d1, d2, ibB_of (by omega) (by omega), wrap64 (by omega) (by omega)]
    simp only [cond_true, Int.toNat_natCast]
    rw [flipK_step (by omega)]
    rfl
  · simp only [h1, h2]
    have d1 : decide ((n : Int) < (n : Int)) = false := decide_eq_false (by omega)
    rw [d1]; rfl
  · have : (List.range n).findSome? (fun _ => (none : Option (Option R))) = none := by simp
    rw [this]; rfl
end Go.Proofs.Yticlnhhaaidmaaa
