/-
With whom a site exchanges, what it tells, what it lacks.
-/
import Derived.Test.YtekpjhhbmjcbmaaqPc
set_option linter.unusedVariables false
set_option linter.unusedSimpArgs false
namespace Go.Proofs.Ytekpjhhbmjcbmaa
open Go Go.Ev
section
variable {N : Nat}
def memB (s : GSnap) (i : Int) : Bool := stt s i == 1 || stt s i == 2
def peerB (s : GSnap) (i : Nat) : Bool := (!((i : Int) == s.Site)) && memB s i
def peers (s : GSnap) (k : Nat) : List Int := ((List.range k).filter (peerB s)).map fun (j : Nat) => (j : Int)
theorem peers_succ (s : GSnap) (k : Nat) : peers s (k + 1) = if peerB s k then peers s k ++ [(k : Int)] else peers s k := by
  unfold peers
  rw [List.range_succ, List.filter_append, List.map_append]
  cases h : peerB s k <;> simp [h]
theorem peers_len (s : GSnap) (k : Nat) : (peers s k).length ≤ k := by
  unfold peers
  rw [List.length_map]
  exact Nat.le_trans (List.length_filter_le _ _) (by simp)
theorem none_find {n : Nat} {α : Type} (last : Option α) : ((List.range n).findSome? (fun _ => (none : Option (Option α)))).getD last = last := by
  induction (List.range n) with
  | nil => rfl
  | cons x l ih => rw [List.findSome?_cons]; exact ih
theorem natCast_lt8 {k : Nat} (h : k < 8) : decide ((k : Int) < 8) = true := by simp; omega
theorem member_eq (N : Nat) (s : GSnap) {k : Nat} (hk : k < 8) : Fexchange_member N s (k : Int) = some (memB s k) := by
  unfold Fexchange_member Fexchange_site
  rw [Option.bind_some, site_t ⟨by omega, by omega⟩, ibB_of (show (0 : Int) ≤ k by omega) (by omega)]
  simp only [Bool.or_true, cond_true, Bool.true_and]; rfl
theorem refmember_eq (N : Nat) (s : GSnap) {k : Nat} (hk : k < 8) : Fref16_Member N s.Epoch (k : Int) = some (memB s k) := by
  unfold Fref16_Member Fref16_site
  rw [Option.bind_some, site_t ⟨by omega, by omega⟩, ibB_of (show (0 : Int) ≤ k by omega) (by omega)]
  simp only [Bool.or_true, cond_true, Bool.true_and]; rfl
theorem peers_eq (hN : 8 < N) (s : GSnap) : Fexchange_Peers N s = some (peers s 8) := by
  unfold Fexchange_Peers Fexchange_peers Fexchange_peers_1_dfa
  rw [Option.bind_some]
  rw [show (⟨0, s, s, []⟩ : Sexchange_peers_1_dfax1) = (fun k : Nat => (⟨(k : Int), s, s, peers s k⟩ : Sexchange_peers_1_dfax1)) 0 from rfl]
  rw [iter_path (fun k : Nat => (⟨(k : Int), s, s, peers s k⟩ : Sexchange_peers_1_dfax1)) 8 (fun _ => none) (some (s, s, s, peers s 8)) ?_ ?_ N hN]
  · rw [none_find]; rfl
  · intro k next hk
    have hl := peers_len s k
    simp only [natCast_lt8 hk, cond_true, peers_succ]
    have hp : peerB s k = ((!((k : Int) == s.Site)) && memB s k) := rfl
    rw [member_eq N s hk, wrap64 (by omega) (by omega)]
    rw [hp]
    cases hs : ((k : Int) == s.Site)
    · simp only [Bool.not_false, cond_true, Option.bind_some, Bool.true_and]
      cases memB s k
      · rfl
      · unfold Fexchange_Peers_3e4
        rw [lenB_of (by simp only [List.length_cons, List.length_nil]; omega)]; rfl
    · rfl
  · intro next; rfl
theorem refpeers_eq (hN : 8 < N) (s : GSnap) : Fref16_Peers N s = some (peers s 8) := by
  unfold Fref16_Peers
  rw [show (⟨[], 0⟩ : Sref16_Peersx3) = (fun k : Nat => (⟨peers s k, (k : Int)⟩ : Sref16_Peersx3)) 0 from rfl]
  rw [iter_path (fun k : Nat => (⟨peers s k, (k : Int)⟩ : Sref16_Peersx3)) 8 (fun _ => none) (some (peers s 8)) ?_ ?_ N hN]
  · exact none_find _
  · intro k next hk
    have hl := peers_len s k
    simp only [natCast_lt8 hk, cond_true, peers_succ]
    have hp : peerB s k = ((!((k : Int) == s.Site)) && memB s k) := rfl
    rw [refmember_eq N s hk, wrap64 (by omega) (by omega)]
    rw [hp]
    cases hs : ((k : Int) == s.Site)
    · simp only [Bool.not_false, cond_true, Option.bind_some, Bool.true_and]
      cases memB s k
      · rfl
      · rw [lenB_of (by simp only [List.length_cons, List.length_nil]; omega)]; rfl
    · rfl
  · intro next; rfl
theorem ints_self {l : List Int} (hN : l.length < N) (hl : l.length ≤ 1048576) : Flaw16_ints N l l = some true := by
  unfold Flaw16_ints
  rw [show ((l.length : Int) == (l.length : Int)) = true by simp]
  simp only [Bool.not_true, cond_false]
  refine iter_run (fun q : Slaw16_intsx4 => 0 ≤ q.t13 ∧ q.t13 ≤ l.length) (fun q => (l.length - q.t13).toNat) ?_ N _ ⟨by simp, by simp⟩ (by simp; omega)
  rintro ⟨t⟩ nx ⟨h0, h1⟩ ih
  simp only at ih h0 h1 ⊢
  by_cases hlt : t < l.length
  · rw [decide_eq_true hlt, ibB_of h0 hlt]
    simp only [beq_self_eq_true, Bool.not_true, cond_false, cond_true]
    rw [wrapS (by omega) (by omega)]
    exact ih _ ⟨by simp only; omega, by simp only; omega⟩ (by simp; omega)
  · rw [decide_eq_false hlt]; rfl
def adB (a : GAddr) : Bool := (((decide (0 ≤ a.Group)) && (decide (a.Group < 9))) && (decide (0 ≤ a.Replica))) && (decide (a.Replica < 5))
theorem ad_or (a : GAddr) : ((((decide (a.Group < 0)) || (decide (9 ≤ a.Group))) || (decide (a.Replica < 0))) || (decide (5 ≤ a.Replica))) = !(adB a) := by
  unfold adB
  simp only [Bool.not_and, ← Int.not_le, decide_not, Bool.not_not]
theorem addrs_eq (hN : 3 ≤ N) (a b : GAddr) : Fexchange_addrs N [a, b] = some (adB a && adB b) := by
  obtain ⟨k, rfl⟩ : ∃ k, N = k + 3 := ⟨N - 3, by omega⟩
  have h1 : Fexchange_addrs (k + 3) [a, b] = (bif ((((decide (a.Group < 0)) || (decide (9 ≤ a.Group))) || (decide (a.Replica < 0))) || (decide (5 ≤ a.Replica))) then some false else
    (bif ((((decide (b.Group < 0)) || (decide (9 ≤ b.Group))) || (decide (b.Replica < 0))) || (decide (5 ≤ b.Replica))) then some false else some true)) := by kernel_rfl
  rw [h1, ad_or, ad_or]
  cases adB a <;> cases adB b <;> rfl
theorem mayAddr_eq (N : Nat) (a : GAddr) : Fref04_MayAddr N a = some (adB a) := rfl
theorem sameOps_nil (N : Nat) (hN : 1 ≤ N) : Fref04_sameOps N [] [] = some true := by
  obtain ⟨k, rfl⟩ : ∃ k, N = k + 1 := ⟨N - 1, by omega⟩
  rfl
theorem sameList_nil (N : Nat) (hN : 1 ≤ N) : Fref04_SameList N [] [] = some true := by
  obtain ⟨k, rfl⟩ : ∃ k, N = k + 1 := ⟨N - 1, by omega⟩
  rfl
theorem beq2_iff (x y : Int) : beq2 x y = true ↔ x = y := by simp [beq2]
theorem beq3_iff (x y : Int) : beq3 x y = true ↔ x = y := by simp [beq3]
theorem sameEntry_bare (N : Nat) (hN : 1 ≤ N) (e : GEntry) (h : e.Ops = []) : Fref04_SameEntry N e e = some true := by
  unfold Fref04_SameEntry Fref04_SamePart
  rw [h, sameOps_nil N hN]
  simp [vbeq_self beq2_iff, vbeq_self beq3_iff]
theorem sameMsg_bare (N : Nat) (hN : 1 ≤ N) (m : GMsg) (h1 : m.List_ = []) (h2 : m.Ops = []) (h3 : m.Entry.Ops = []) : Fref04_SameMsg N m m = some true := by
  unfold Fref04_SameMsg Fref04_SamePart
  rw [h1, h2, sameList_nil N hN, sameOps_nil N hN, sameEntry_bare N hN _ h3]
  simp [vbeq_self beq2_iff, vbeq_self beq3_iff]
theorem known_same (hN : 3 ≤ N) (s : GSnap) (a b : GAddr) : ∃ m e, Fexchange_Known N s a b = some (m, e) ∧ Fref16_Known N s a b = some (m, e) ∧ m.List_ = [] ∧ m.Ops = [] ∧ m.Entry.Ops = [] := by
  unfold Fexchange_Known Fref16_Known
  rw [addrs_eq hN, mayAddr_eq, mayAddr_eq]
  simp only [Option.bind_some]
  cases adB a <;> cases adB b <;> exact ⟨_, _, rfl, rfl, rfl, rfl, rfl⟩
def mx (a b : Int) : Int := bif decide (a < b) then b else a
def joinV (a b : Vector Int 8) (k : Nat) : Vector Int 8 := Vector.ofFn fun i : Fin 8 => if i.1 < k then mx (vget a i.1 default) (vget b i.1 default) else vget a i.1 default
theorem joinV_get (a b : Vector Int 8) (k : Nat) {j : Nat} (hj : j < 8) : vget (joinV a b k) j default = if j < k then mx (vget a j default) (vget b j default) else vget a j default := vget_ofFn _ _ hj
theorem joinV_succ (a b : Vector Int 8) {k : Nat} (hk : k < 8) : vset (joinV a b k) k (mx (vget a k default) (vget b k default)) = joinV a b (k + 1) := by
  refine vext default fun j hj => ?_
  rw [vget_set _ _ _ hj, joinV_get a b _ hj, joinV_get a b _ hj]
  by_cases h : k = j
  · subst h; rw [if_pos rfl, if_pos (by omega)]
  · rw [if_neg h]
    by_cases h' : j < k
    · rw [if_pos h', if_pos (by omega)]
    · rw [if_neg h', if_neg (by omega)]
theorem joinV_zero (a b : Vector Int 8) : joinV a b 0 = a := by
  refine vext default fun j hj => ?_
  rw [joinV_get a b _ hj, if_neg (by omega)]
theorem mx_self (a : Int) : mx a a = a := by unfold mx; cases decide (a < a) <;> rfl
theorem joinV_self (a : Vector Int 8) (k : Nat) : joinV a a k = a := by
  refine vext default fun j hj => ?_
  rw [joinV_get a a _ hj, mx_self]; split <;> rfl
theorem joinLoop (hN : 8 < N) {R : Type} (l : List (Vector Int 8)) (t : Int) (a b : Vector Int 8) (hb : lget l t default = b) (nx : Sstamp_fold_330x3 → Option (Vector Int 8)) :
    iter N (fun (s3 : Sstamp_fold_330x8) next4 =>
 (bif (decide (s3.t19 < 8)) then
 (bif (ibB s3.t19 8) then
 (bif (ibB s3.t19 8) then
 ((Fstamp_Join_1 N (vget s3.b1 ((s3.t19).toNat) default) (vget (lget l t default) ((s3.t19).toNat) default)).bind fun r5 =>
 (bif (ibB s3.t19 8) then
 (next4 ⟨(IntKind.i64.wrap (s3.t19 + 1)), (vset s3.b1 ((s3.t19).toNat) r5)⟩)
 else none))
 else none)
 else none)
 else
 (nx ⟨(IntKind.i64.wrap (t + 1)), s3.b1⟩))) ⟨0, a⟩ = nx ⟨IntKind.i64.wrap (t + 1), joinV a b 8⟩ := by
  rw [hb]
  rw [show (⟨0, a⟩ : Sstamp_fold_330x8) = (fun k : Nat => (⟨(k : Int), joinV a b k⟩ : Sstamp_fold_330x8)) 0 from by simp only [joinV_zero]; rfl]
  rw [iter_path (fun k : Nat => (⟨(k : Int), joinV a b k⟩ : Sstamp_fold_330x8)) 8 (fun _ => none) (nx ⟨IntKind.i64.wrap (t + 1), joinV a b 8⟩) ?_ ?_ N hN]
  · exact none_find _
  · intro k next hk
    simp only [natCast_lt8 hk, ibB_of (show (0 : Int) ≤ k by omega) (show (k : Int) < 8 by omega), cond_true, Int.toNat_natCast]
    unfold Fstamp_Join_1
    rw [Option.bind_some, wrap64 (by omega) (by omega), joinV_get a b _ hk, if_neg (by omega)]
    rw [show (bif decide (vget a k default < vget b k default) then vget b k default else vget a k default) = mx (vget a k default) (vget b k default) from rfl, joinV_succ a b hk]
    rfl
  · intro next; rfl
theorem above_eq (hN : 8 < N) (a b : Vector Int 8) : Fstamp_Above N a b = some (vbeq beq2 (joinV a b 8) a) := by
  unfold Fstamp_Above Fstamp_Join Fstamp_fold_330
  have h : iter N (fun (s1 : Sstamp_fold_330x3) next2 =>
 (bif (decide (s1.t11 < ((([a, b] : List (Vector Int 8))).length : Int))) then
 (bif (ibB s1.t11 ((([a, b] : List (Vector Int 8))).length : Int)) then
 (bif (s1.t11 == 0) then
 (iter N (fun (s3 : Sstamp_fold_330x8) next4 =>
 (bif (decide (s3.t19 < 8)) then
 (bif (ibB s3.t19 8) then
 (bif (ibB s3.t19 8) then
 ((Fstamp_Join_1 N (vget s3.b1 ((s3.t19).toNat) default) (vget (lget [a, b] s1.t11 default) ((s3.t19).toNat) default)).bind fun r5 =>
 (bif (ibB s3.t19 8) then
 (next4 ⟨(IntKind.i64.wrap (s3.t19 + 1)), (vset s3.b1 ((s3.t19).toNat) r5)⟩)
 else none))
 else none)
 else none)
 else
 (next2 ⟨(IntKind.i64.wrap (s1.t11 + 1)), s3.b1⟩))) ⟨0, (lget [a, b] s1.t11 default)⟩)
 else
 (iter N (fun (s6 : Sstamp_fold_330x8) next7 =>
 (bif (decide (s6.t19 < 8)) then
 (bif (ibB s6.t19 8) then
 (bif (ibB s6.t19 8) then
 ((Fstamp_Join_1 N (vget s6.b1 ((s6.t19).toNat) default) (vget (lget [a, b] s1.t11 default) ((s6.t19).toNat) default)).bind fun r8 =>
 (bif (ibB s6.t19 8) then
 (next7 ⟨(IntKind.i64.wrap (s6.t19 + 1)), (vset s6.b1 ((s6.t19).toNat) r8)⟩)
 else none))
 else none)
 else none)
 else
 (next2 ⟨(IntKind.i64.wrap (s1.t11 + 1)), s6.b1⟩))) ⟨0, s1.b1⟩))
 else none)
 else
 (some s1.b1))) ⟨0, (Vector.replicate 8 (default : Int))⟩ = some (joinV a b 8) := by
    rw [show (⟨0, (Vector.replicate 8 (default : Int))⟩ : Sstamp_fold_330x3) = (fun k : Nat => (⟨(k : Int), if k = 0 then (Vector.replicate 8 (default : Int)) else if k = 1 then a else joinV a b 8⟩ : Sstamp_fold_330x3)) 0 from rfl]
    rw [iter_path (fun k : Nat => (⟨(k : Int), if k = 0 then (Vector.replicate 8 (default : Int)) else if k = 1 then a else joinV a b 8⟩ : Sstamp_fold_330x3)) 2 (fun _ => none) (some (joinV a b 8)) ?_ ?_ N (by omega)]
    · exact none_find _
    · intro k next hk
      have hk2 : k = 0 ∨ k = 1 := by omega
      rcases hk2 with rfl | rfl
      · have := joinLoop (N := N) hN (R := Unit) [a, b] 0 a a rfl next
        rw [joinV_self] at this
        exact this
      · have := joinLoop (N := N) hN (R := Unit) [a, b] 1 a b rfl next
        exact this
    · intro next; rfl
  rw [h]; rfl
theorem refabove_eq (hN : 8 < N) (a b : Vector Int 8) : Fref16_above N a b = some ((List.range 8).any fun j => decide (vget b j default < vget a j default)) := by
  unfold Fref16_above
  rw [show (⟨0⟩ : Sref16_abovex2) = (fun k : Nat => (⟨(k : Int)⟩ : Sref16_abovex2)) 0 from rfl]
  rw [iter_path (fun k : Nat => (⟨(k : Int)⟩ : Sref16_abovex2)) 8 (fun k => if decide (vget b k default < vget a k default) then some (some true) else none) (some false) ?_ ?_ N hN]
  · induction (List.range 8) with
    | nil => rfl
    | cons x l ih =>
      rw [List.findSome?_cons, List.any_cons]
      cases decide (vget b x default < vget a x default)
      · simpa using ih
      · simp
  · intro k next hk
    simp only [natCast_lt8 hk, ibB_of (show (0 : Int) ≤ k by omega) (show (k : Int) < 8 by omega), cond_true, Int.toNat_natCast]
    rw [wrap64 (by omega) (by omega)]
    cases decide (vget b k default < vget a k default) <;> rfl
  · intro next; rfl
theorem above_not (a b : Vector Int 8) : (!(vbeq beq2 (joinV a b 8) a)) = ((List.range 8).any fun j => decide (vget a j default < vget b j default)) := by
  rw [Bool.eq_iff_iff, Bool.not_eq_true', ← Bool.not_eq_true, vbeq_iff beq2_iff, List.any_eq_true]
  constructor
  · intro h
    apply Classical.byContradiction
    intro hn
    apply h
    refine vext default fun j hj => ?_
    rw [joinV_get a b _ hj, if_pos hj]
    unfold mx
    have : ¬ vget a j default < vget b j default := fun q => hn ⟨j, by simp; omega, by simpa using q⟩
    rw [decide_eq_false this]; rfl
  · rintro ⟨j, hj, h⟩ he
    have hj8 : j < 8 := List.mem_range.1 hj
    have h' : vget a j default < vget b j default := by simpa using h
    have := congrArg (fun v => vget v j default) he
    simp only [joinV_get a b _ hj8, if_pos hj8] at this
    unfold mx at this
    rw [decide_eq_true h'] at this
    simp only [cond_true] at this
    omega
theorem lacks_same (hN : 8 < N) (s : GSnap) (n : Int) : ∃ r, Fexchange_Lacks N s n = some r ∧ Fref16_Lacks N s n = some r := by
  unfold Fexchange_Lacks Fref16_Lacks Fexchange_site Fref16_site
  simp only [Option.bind_some]
  by_cases h : 0 ≤ n ∧ n < 8
  · rw [site_t h, ibB_of h.1 h.2, above_eq hN, refabove_eq hN]
    simp only [Bool.or_true, cond_true, Option.bind_some, Bool.true_and]
    exact ⟨_, rfl, by rw [above_not]⟩
  · rw [site_f h]; exact ⟨_, rfl, rfl⟩
theorem tells_law (hN : 400 ≤ N) (s : GSnap) (a b : GAddr) (n : Int) : Flaw16_ExchangeTells N s a b n = some true := by
  unfold Flaw16_ExchangeTells
  obtain ⟨m, e, h1, h2, h3, h4, h5⟩ := known_same (N := N) (by omega) s a b
  obtain ⟨r, h6, h7⟩ := lacks_same (N := N) (by omega) s n
  have hl := peers_len s 8
  rw [h1, h2, begun_eq hN, peers_eq (by omega), refpeers_eq (by omega), h6, h7]
  simp only [Option.bind_some, cond_true]
  rw [ints_self (by omega) (by omega)]
  simp only [Option.bind_some, cond_true, Bool.true_and]
  rw [sameMsg_bare N (by omega) m h3 h4 h5]
  simp
end
end Go.Proofs.Ytekpjhhbmjcbmaa
