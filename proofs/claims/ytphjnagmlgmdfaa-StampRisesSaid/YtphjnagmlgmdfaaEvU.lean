/-
The rewriting rules of the operations, the rest: composite values, lengths, slices, appends, conversions; values that name no box.
-/
import Derived.Test.YtphjnagmlgmdfaaEvT
import Derived.Laws.BitsLemmas
set_option linter.unusedVariables false
set_option linter.unusedSimpArgs false
namespace Go.Ev
open Go

section
variable {E : Env} {H : Nat → Ent} {t ty e : TypeId} {d : TypeDesc} {s p i o off k n m : Nat} {z l cs xs : List AV} {x y : AV} {ls ls' : List (List AV)} {tok : Tok} {K K' : IntKind} {a b : Int} {ob : Prop} {ps r : List (Nat × AV)} {bb : Bool}

def isS : Option TI → Bool
  | some _ => true
  | none => false
def allTy (E : Env) : List Field → Bool
  | [] => true
  | f :: r => isS (E.ty f.type) && allTy E r
def places (E : Env) (fs : List Field) (i : Nat) : Option (Nat × Nat) := plc E fs[i]?
where
  plc (E : Env) : Option Field → Option (Nat × Nat)
    | some f => pl2 f.offset (E.ty f.type)
    | none => none
  pl2 (off : Nat) : Option TI → Option (Nat × Nat)
    | some fi => some (off, fi.size)
    | none => none
def agM : Option (List AV) → Option AV
  | some l => some (.agg l)
  | none => none
def bd2 (E : Env) (fs : List Field) (z : List AV) (ps : List (Nat × AV)) (ok : Bool) : Option AV :=
  if ok = true then agM (evFill (places E fs) z ps) else none
def arp (s : Nat) (i : Nat) : Option (Nat × Nat) := some (i * s, s)
def bdA (z : List AV) (ps : List (Nat × AV)) : Option TI → Option AV
  | some ei => agM (evFill (arp ei.size) z ps)
  | none => none
def bd1 (E : Env) (ps : List (Nat × AV)) : Option TI → Option AV
  | some ⟨.struct fs, _, _, z⟩ => bd2 E fs.toList z ps (allTy E fs.toList)
  | some ⟨.array _ e, _, _, z⟩ => bdA z ps (E.ty e)
  | _ => none
theorem allTy_eq : ∀ (fs : List Field), allTy E fs = fs.all (fun f => (E.ty f.type).isSome)
  | [] => rfl
  | f :: r => by
    simp only [allTy, List.all_cons, allTy_eq r]
    cases E.ty f.type <;> rfl
theorem m_build : evBuild E t ps = bd1 E ps (E.ty t) := by
  simp only [evBuild]
  cases E.ty t with
  | none => rfl
  | some i =>
    obtain ⟨d, s, p, z⟩ := i
    cases d <;> first | rfl | skip
    · rename_i n e; simp only [bd1, bdA]; cases E.ty e with
      | none => rfl
      | some ei => simp only [agM]; cases hh : evFill (fun i => some (i * ei.size, ei.size)) z ps <;> simp only [Option.map] <;> rw [show arp ei.size = fun i => some (i * ei.size, ei.size) from rfl, hh]
    · rename_i fs
      simp only [bd1, bd2, allTy_eq]
      have e1 : (fs.all fun f => (E.ty f.type).isSome) = (fs.toList.all fun f => (E.ty f.type).isSome) := by simp
      rw [e1]
      split
      · have e2 : (fun i => fs[i]?.bind fun f => (E.ty f.type).map fun fi => (f.offset, fi.size)) = places E fs.toList := by
          funext i
          simp only [places, Array.getElem?_toList]
          cases fs[i]? with
          | none => rfl
          | some f => simp only [places.plc, Option.bind]; cases E.ty f.type <;> rfl
        rw [e2]
        cases evFill (places E fs.toList) z ps <;> rfl
      · rfl
theorem m_1s {fs : List Field} : bd1 E ps (some ⟨.struct (List.toArray fs), s, p, z⟩) = bd2 E fs z ps (allTy E fs) := rfl
theorem m_1a {n : Nat} : bd1 E ps (some ⟨.array n e, s, p, z⟩) = bdA z ps (E.ty e) := rfl
theorem m_A : bdA z ps (some ⟨d, s, p, xs⟩) = agM (evFill (arp s) z ps) := rfl
theorem m_2 {fs : List Field} : bd2 E fs z ps true = agM (evFill (places E fs) z ps) := rfl
theorem m_all0 : allTy E [] = true := rfl
theorem m_allS {nm tg pk : String} {off bo : Nat} {em : Bool} {fs : List Field} : allTy E (⟨nm, ty, off, em, tg, pk, bo⟩ :: fs) = (isS (E.ty ty) && allTy E fs) := rfl
theorem m_isS {ti : TI} : isS (some ti) = true := rfl
theorem m_pl {fs : List Field} : places E fs i = places.plc E fs[i]? := rfl
theorem m_plc {nm tg pk : String} {off bo : Nat} {em : Bool} : places.plc E (some ⟨nm, ty, off, em, tg, pk, bo⟩) = places.pl2 off (E.ty ty) := rfl
theorem m_pl2 : places.pl2 off (some ⟨d, s, p, z⟩) = some (off, s) := rfl
theorem m_arp : arp s i = some (i * s, s) := rfl
theorem m_ag : agM (some l) = some (.agg l) := rfl
def fl (pl : Nat → Option (Nat × Nat)) (cells : List AV) (r : List (Nat × AV)) : Option (Nat × Nat) → Option (List AV) → Option (List AV)
  | some (off, size), some xs => if xs.length = size ∧ off + size ≤ cells.length then evFill pl (wr cells off xs) r else none
  | _, _ => none
variable {pl : Nat → Option (Nat × Nat)}
theorem m_f0 : evFill pl l [] = some l := rfl
theorem m_fS : evFill pl l ((i, x) :: r) = fl pl l r (pl i) x.cells? := by
  simp only [evFill, fl]; cases pl i <;> cases x.cells? <;> rfl
theorem m_fl {size : Nat} : fl pl l r (some (off, size)) (some xs) = if xs.length = size ∧ off + size ≤ l.length then evFill pl (wr l off xs) r else none := rfl

/-! slice literals -/
def cellsM : List (Nat × AV) → Option (List (List AV))
  | [] => some []
  | (_, x) :: r => consM x.cells? (cellsM r)
where
  consM : Option (List AV) → Option (List (List AV)) → Option (List (List AV))
    | some l, some ls => some (l :: ls)
    | _, _ => none
def lensOk (s : Nat) : List (List AV) → Bool
  | [] => true
  | x :: r => (x.length == s) && lensOk s r
def idxFrom (len : Nat) : Nat → List (Nat × AV) → Bool
  | j, [] => j == len
  | j, (i, _) :: r => (i == j) && idxFrom len (j + 1) r
def bsF (len : Nat) (ok : Bool) (s : Nat) : Option (List (List AV)) → Option AV
  | some xs => if ok = true ∧ lensOk s xs = true ∧ len * s ≤ 16777216 then some (.sl s xs .full) else none
  | none => none
def bsE (len : Nat) (ps : List (Nat × AV)) : Option TI → Option AV
  | some ei => bsF len (idxFrom len 0 ps) ei.size (cellsM ps)
  | none => none
def bs0 (E : Env) (len : Nat) (ps : List (Nat × AV)) : Option TI → Option AV
  | some ⟨.slice e, _, _, _⟩ => bsE len ps (E.ty e)
  | _ => none
theorem cellsM_eq : ∀ ps : List (Nat × AV), (ps.map (·.2)).mapM AV.cells? = cellsM ps
  | [] => rfl
  | (i, x) :: r => by
    simp only [List.map_cons, List.mapM_cons, cellsM_eq r, cellsM]
    cases x.cells? with
    | none => rfl
    | some l => cases cellsM r <;> rfl
theorem lensOk_eq (s : Nat) : ∀ xs : List (List AV), (xs.all fun x => x.length == s) = lensOk s xs
  | [] => rfl
  | x :: r => by simp only [List.all_cons, lensOk, lensOk_eq s r]
theorem idxFrom_eq : ∀ (ps : List (Nat × AV)) (j m : Nat), (ps.map (·.1) = List.range' j m) ↔ idxFrom (j + m) j ps = true
  | [], j, m => by cases m <;> simp [idxFrom, List.range']
  | (i, x) :: r, j, 0 => by
    simp only [List.map_cons, List.range', idxFrom, Bool.and_eq_true, beq_iff_eq]
    constructor
    · intro h; cases h
    · intro ⟨_, h⟩
      have := (idxFrom_len r (j + 1) (j + 0)).1 h
      omega
  | (i, x) :: r, j, m + 1 => by
    have ih := idxFrom_eq r (j + 1) m
    rw [show j + 1 + m = j + (m + 1) by omega] at ih
    simp only [List.map_cons, List.range', idxFrom, Bool.and_eq_true, beq_iff_eq, List.cons.injEq, ih]
where
  idxFrom_len : ∀ (ps : List (Nat × AV)) (j len : Nat), (idxFrom len j ps = true → j + ps.length = len) ∧ True
    | [], j, len => ⟨fun h => by simpa [idxFrom] using h, trivial⟩
    | (i, x) :: r, j, len => ⟨fun h => by
      simp only [idxFrom, Bool.and_eq_true] at h
      have := (idxFrom_len r (j + 1) len).1 h.2
      simp only [List.length_cons]; omega, trivial⟩
theorem m_bs : evBuildSlice E t m ps = bs0 E m ps (E.ty t) := by
  simp only [evBuildSlice]
  cases E.ty t with
  | none => rfl
  | some i =>
    obtain ⟨d, s, p, z⟩ := i
    cases d <;> first | rfl | skip
    rename_i e
    simp only [bs0]
    cases E.ty e with
    | none => rfl
    | some ei =>
      simp only [bsE, cellsM_eq]
      cases cellsM ps with
      | none => rfl
      | some xs =>
        simp only [bsF, lensOk_eq]
        have h := idxFrom_eq ps 0 m
        rw [← List.range_eq_range', Nat.zero_add] at h
        by_cases hc : ps.map (·.1) = List.range m
        · simp only [hc, h.1 hc, true_and, show (2 ^ 24 : Nat) = 16777216 by decide]
        · have : ¬ idxFrom m 0 ps = true := fun e => hc (h.2 e)
          rw [if_neg (fun e => hc e.1), if_neg (fun e => this e.1)]
theorem m_b0 : bs0 E m ps (some ⟨.slice e, s, p, z⟩) = bsE m ps (E.ty e) := rfl
theorem m_bE : bsE m ps (some ⟨d, s, p, z⟩) = bsF m (idxFrom m 0 ps) s (cellsM ps) := rfl
theorem m_bF : bsF m bb s (some ls) = if bb = true ∧ lensOk s ls = true ∧ m * s ≤ 16777216 then some (.sl s ls .full) else none := rfl
theorem m_c0 : cellsM [] = some [] := rfl
theorem m_cS : cellsM ((i, x) :: r) = cellsM.consM x.cells? (cellsM r) := rfl
theorem m_cc : cellsM.consM (some l) (some ls) = some (l :: ls) := rfl
theorem m_l0 : lensOk s [] = true := rfl
theorem m_lS : lensOk s (l :: ls) = ((l.length == s) && lensOk s ls) := rfl
theorem m_i0 : idxFrom m k [] = (k == m) := rfl
theorem m_iS : idxFrom m k ((i, x) :: r) = ((i == k) && idxFrom m (k + 1) r) := rfl

/-! lengths -/
def lnR : Option Nat → Option Res
  | some k => some ⟨.v (.int .i64 (k : Int)), [], True⟩
  | none => none
def lnB (s : ByteArray) : Option TI → Option Nat
  | some ⟨.string, _, _, _⟩ => some s.data.toList.length
  | some ⟨.array n _, _, _, _⟩ => some n
  | _ => none
def lnS (n : Nat) : Option TI → Option Nat
  | some ⟨.slice _, _, _, _⟩ => some n
  | some ⟨.array n _, _, _, _⟩ => some n
  | _ => none
def lnA : Option TI → Option Nat
  | some ⟨.array n _, _, _, _⟩ => some n
  | _ => none
theorem j_len : evBuiltin E H n (.builtin .len) (List.toArray [t]) [x] = lnR (evLen E t x) := by
  simp [evBuiltin, lnR]; cases evLen E t x <;> rfl
theorem j_R : lnR (some k) = some ⟨.v (.int .i64 (k : Int)), [], True⟩ := rfl
theorem j_str {str : ByteArray} : evLen E t (.v (.string str)) = lnB str (E.ty t) := by
  simp only [evLen]; cases E.ty t with
  | none => rfl
  | some i => obtain ⟨d, s, p, z⟩ := i; cases d <;> rfl
theorem j_sl : evLen E t (.sl s ls tok) = lnS ls.length (E.ty t) := by
  simp only [evLen]; cases E.ty t with
  | none => rfl
  | some i => obtain ⟨d, s, p, z⟩ := i; cases d <;> rfl
theorem j_asl : evLen E t (.asl s ls) = lnS ls.length (E.ty t) := by
  simp only [evLen]; cases E.ty t with
  | none => rfl
  | some i => obtain ⟨d, s, p, z⟩ := i; cases d <;> rfl
theorem j_bsl : evLen E t (.bsl i o n s) = lnS n (E.ty t) := by
  simp only [evLen]; cases E.ty t with
  | none => rfl
  | some i => obtain ⟨d, s, p, z⟩ := i; cases d <;> rfl
theorem j_nil {c : Nat} : evLen E t (.v (.slice none 0 c)) = lnS 0 (E.ty t) := by
  simp only [evLen]; cases E.ty t with
  | none => rfl
  | some i => obtain ⟨d, s, p, z⟩ := i; cases d <;> rfl
theorem j_agg : evLen E t (.agg l) = lnA (E.ty t) := by
  simp only [evLen]; cases E.ty t with
  | none => rfl
  | some i => obtain ⟨d, s, p, z⟩ := i; cases d <;> rfl
theorem j_B {str : ByteArray} : lnB str (some ⟨.string, s, p, z⟩) = some str.data.toList.length := rfl
theorem j_S : lnS n (some ⟨.slice e, s, p, z⟩) = some n := rfl
theorem j_A : lnA (some ⟨.array n e, s, p, z⟩) = some n := rfl

theorem s_after {T : List AV} {G : List Ent} {dd : Option Tmp} {op : Op} {pos : String} {after : Array Edge} {g : Option (Nat × Bool)} {U : List (Nat × Ent)} {F : List Nat} : St.after ⟨T, G⟩ ⟨dd, op, ty, pos, after, g⟩ ⟨x, U, F⟩ = St.put ⟨T, appH G U⟩ dd x := rfl

theorem w_i64 {a : Int} (h1 : -9223372036854775808 ≤ a) (h2 : a < 9223372036854775808) : IntKind.wrap .i64 a = a := by
  rw [IntKind.wrap_i64]; omega

/-! values without a box -/
theorem y_0 : NoIds [] = True := rfl
theorem y_S : NoIds (x :: l) = (NoId x ∧ NoIds l) := rfl
theorem NoIdss.nil : NoIdss [] := fun _ h => by cases h
theorem NoIdss.cons (h : NoIds l) (h' : NoIdss ls) : NoIdss (l :: ls) := fun c hc => by
  cases hc with
  | head => exact h
  | tail _ hm => exact h' c hm
theorem NoIdss.map {α : Type} {f : α → List AV} (h : ∀ a, NoIds (f a)) (w : List α) : NoIdss (w.map f) := fun c hc => by
  obtain ⟨a, _, rfl⟩ := List.mem_map.1 hc
  exact h a
theorem y_v {c : Value} : NoId (.v c) = True := eq_true (NoId.v c)
theorem y_agg (h : NoIds l) : NoId (.agg l) := .agg h
theorem y_tup (h : NoIds l) : NoId (.tup l) := .tup h
theorem y_fn {f : FuncId} (h : NoIds l) : NoId (.fn f l) := .fn h
end
end Go.Ev
