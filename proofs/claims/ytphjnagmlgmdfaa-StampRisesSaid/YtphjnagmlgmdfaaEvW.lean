/-
From a contract to a row: the ghost of the whole memory, what is kept, what the arguments are.
-/
import Derived.Test.YtphjnagmlgmdfaaEvU
import Derived.ProofKit
import Derived.WideKeyArgs
import Derived.Carry
set_option linter.unusedVariables false
set_option linter.unusedSimpArgs false
namespace Go.Ev
open Go

/-- All of memory as it stands, taken as never to be written. -/
def ghW (W : World) : Gh := ⟨fun b o => W.cell? ⟨b, o, none⟩, fun _ => none⟩

theorem ghW_rel (W : World) : WRel (ghW W) (hget []) W :=
  ⟨fun b o v h => h, fun id => by rw [s_hgN]; trivial, fun _ _ => rfl, fun id id' x x' _ _ _ h _ => by cases h⟩

/-- What was there is there. -/
structure Kept (w w' : World) : Prop where
  os : w'.os = w.os
  output : w'.output = w.output
  block : ∀ k, k < w.heap.size → w'.heap[k]? = w.heap[k]?

theorem Evo.kept {W W' : World} {g' : Gh} {H' : Nat → Ent} (h : Evo (ghW W) (hget []) W g' H' W') : Kept W W' := by
  refine ⟨h.fr.os, h.fr.out, fun k hk => ?_⟩
  have hM : ∀ b o, ¬ MutOf (ghW W) (hget []) b o := fun b o ⟨id, lo, n, hl, e, _⟩ => by cases e
  have hget : W.heap[k]? = some W.heap[k] := Array.getElem?_eq_getElem hk
  cases ho : W.heap[k] with
  | cells cs T fr =>
    rw [ho] at hget
    obtain ⟨cs', e, hs, hc⟩ := h.fr.cells k cs T fr hget
    have : cs' = cs := by
      apply Array.ext hs
      intro i h1 h2
      have := hc i (hM k i)
      rw [Array.getElem?_eq_getElem h1, Array.getElem?_eq_getElem h2] at this
      exact Option.some.inj this
    rw [hget, e, this]
  | _ =>
    rw [ho] at hget
    rw [hget]
    exact h.fr.objs k _ hget (by intros; simp)

theorem Kept.same {W W' : World} (h : Kept W W') {p : MemPlace} (hp : p.block < W.heap.size) : W.sameAt W' p := by
  cases p with
  | cell b o => exact World.cell?_of_block (w := W) (h.block b hp)
  | map b => exact h.block b hp

theorem Kept.frame {W W' : World} (h : Kept W W') (may : MemPlace → Prop) : W.keptBut W' may := by
  refine ⟨h.os, h.output, fun i hi => ?_⟩
  rw [h.block i hi]
  split <;> simp_all

section
variable {H : Type} {enc : TypeId × Value → H} {P : Program}
theorem Kept.trodAll (hl : laidOutB P = true) {W W' : World} (hk : Kept W W') {sp : Nat → Bool} : ∀ {ts : List TypeId} {vs : List Value} {ds : List (DataW H)} {ps : List MemPlace},
    (ts.all fun t => P.readableRec t && decide (t < P.types.size)) = true → DataW.TrodAll enc P W 0 (fun _ => true) true ts vs ds ps → (∀ p ∈ ps, p.block < W.heap.size) → (∀ p ∈ ps, sp p.block = true) →
    DataW.TrodAll enc P W' 0 sp true ts vs ds ps
  | [], [], [], _, _, h, _, _ => h
  | [], _ :: _, _, _, _, h, _, _ => h.elim
  | [], [], _ :: _, _, _, h, _, _ => h.elim
  | _ :: _, [], _, _, _, h, _, _ => h.elim
  | _ :: _, _ :: _, [], _, _, h, _, _ => h.elim
  | t :: ts, v :: vs, d :: ds, ps, hr, h, hlt, hs => by
    obtain ⟨p, q, h1, h2, rfl⟩ := h
    simp only [List.all_cons, Bool.and_eq_true, decide_eq_true_eq] at hr
    refine ⟨p, q, ?_, Kept.trodAll hl hk hr.2 h2 (fun x hx => hlt x (by simp [hx])) (fun x hx => hs x (by simp [hx])), rfl⟩
    exact WideElems.Trod_stays hl hr.1.1 hr.1.2 h1 (fun x hx => hk.same (hlt x (by simp [hx]))) (fun x hx => hs x (by simp [hx]))

/-- The law's end: true, and what was read reads so. -/
theorem post_law {f : Func} {s : ChangeSpec} {apart fresh handsOn : Bool} {W W' : World} {args : Array Value} {ds gs : List (DataW H)} {before : List MemPlace} {tb : TypeId}
    (hW : DataW.Whole enc P f.params.toList s.vars apart W args.toList ds gs before) (hl : laidOutB P = true) (hv : s.vars = []) (hs : s.fn H ds = { results := [.lit (.bool true)], args := ds })
    (hres : f.resultTypes = #[tb]) (hb : P.underlying tb = some .bool) (hr : (f.params.toList.all fun t => P.readableRec t && decide (t < P.types.size)) = true) (hk : Kept W W') :
    s.post enc P f apart fresh handsOn false W args (.bool true) W' := by
  have hW0 := hW
  obtain ⟨p, q, hA, hV, rfl, _, _⟩ := hW
  rw [hv] at hV
  have hg : gs = [] ∧ q = [] := by
    cases gs with
    | nil => exact ⟨rfl, hV⟩
    | cons => exact hV.elim
  obtain ⟨rfl, rfl⟩ := hg
  have hlt : ∀ x ∈ p, x.block < W.heap.size := fun x hx => hW0.lt x (by simp [hx])
  have hA' : ∀ sp : Nat → Bool, (∀ x ∈ p, sp x.block = true) → DataW.TrodAll enc P W' 0 sp true f.params.toList args.toList ds p := fun sp h => Kept.trodAll hl hk hr hA hlt h
  refine ⟨ds, [], p ++ [], [], p, [], hW0, ?_, ?_, ?_, ?_, fun h => by cases h⟩
  · rw [List.append_nil, hs, hres]
    refine ⟨[], [], ⟨1, ?_⟩, rfl, rfl⟩
    simp [DataW.trod, hb, Value.cells]
  · rw [List.append_nil, hs]; exact hA' _ fun x hx => by simpa using hlt x hx
  · rw [hv, List.append_nil, hs]; rfl
  · exact hk.frame _

/-- From the contract to the row's post. -/
theorem law_calls {E : Env} {k : FuncId} {f : Func} {s : ChangeSpec} {apart fresh handsOn : Bool} {W : World} {args : Array Value} {ds gs : List (DataW H)} {before : List MemPlace} {tb : TypeId} {avs : List AV}
    (hspec : FnSpec E k avs [] (.v (.bool true)) []) (hrel : LRel (ghW W) avs args.toList)
    (hW : DataW.Whole enc E.P f.params.toList s.vars apart W args.toList ds gs before) (hl : laidOutB E.P = true) (hv : s.vars = []) (hs : s.fn H ds = { results := [.lit (.bool true)], args := ds })
    (hres : f.resultTypes = #[tb]) (hb : E.P.underlying tb = some .bool) (hr : (f.params.toList.all fun t => E.P.readableRec t && decide (t < E.P.types.size)) = true) :
    Calls E.P k args W fun e W' => ∃ v, e = .returned v ∧ s.post enc E.P f apart fresh handsOn false W args v W' := by
  refine (hspec.2 (ghW W) W args (ghW_rel W) hrel).mono fun e W' ⟨v, g', he, hv', hev⟩ => ⟨v, he, ?_⟩
  cases hv'
  exact post_law hW hl hv hs hres hb hr hev.kept
end

/-! ### What the arguments are -/
section
variable {P : Program} {w : World} {r : _root_.Go.Reach} {b : Nat}
theorem ok_int {t : TypeId} {k : IntKind} {v : Value} (ht : P.underlying t = some (.int k)) (h : Value.okWide P w r b t v) : ∃ n, v = .int k n ∧ k.has n := by
  simp only [Value.okWide, ht, Cell.okWide] at h
  cases v <;> simp only [Cell.ok, ht] at h
  obtain ⟨rfl, h⟩ := h
  exact ⟨_, rfl, h⟩
theorem ok_bool {t : TypeId} {v : Value} (ht : P.underlying t = some .bool) (h : Value.okWide P w r b t v) : ∃ n, v = .bool n := by
  simp only [Value.okWide, ht, Cell.okWide] at h
  cases v <;> simp only [Cell.ok, ht] at h
  exact ⟨_, rfl⟩
theorem ok_string {t : TypeId} {v : Value} (ht : P.underlying t = some .string) (h : Value.okWide P w r b t v) : ∃ n, v = .string n := by
  simp only [Value.okWide, ht, Cell.okWide] at h
  cases v <;> simp only [Cell.ok, ht] at h
  exact ⟨_, rfl⟩
theorem okC_int {t : TypeId} {k : IntKind} {v : Value} (ht : P.underlying t = some (.int k)) (h : Cell.okWide P w r b t v) : ∃ n, v = .int k n ∧ k.has n :=
  ok_int ht (by simp only [Value.okWide, ht]; exact h)
theorem okC_string {t : TypeId} {v : Value} (ht : P.underlying t = some .string) (h : Cell.okWide P w r b t v) : ∃ n, v = .string n :=
  ok_string ht (by simp only [Value.okWide, ht]; exact h)
theorem okC_bool {t : TypeId} {v : Value} (ht : P.underlying t = some .bool) (h : Cell.okWide P w r b t v) : ∃ n, v = .bool n :=
  ok_bool ht (by simp only [Value.okWide, ht]; exact h)
/-- A struct's or an array's cells, each by its type. -/
theorem ok_agg {t : TypeId} {i : TI} {v : Value} {ts : List TypeId} (ht : P.underlying t = some i.d) (ha : i.agg = true) (hts : P.cellTypes P.depth t = some ts) (hn : P.cellsOf t = ts.length) (h : Value.okWide P w r b t v) :
    ∃ cs : Array Value, v = .agg cs ∧ cs.toList.length = ts.length ∧ ∀ (j : Nat) (c : Value), cs.toList[j]? = some c → ∃ u : TypeId, ts[j]? = some u ∧ Cell.okWide P w r b u c := by
  obtain ⟨d, s, p, z⟩ := i
  have key : ∃ cs, v = .agg cs ∧ cs.size = P.cellsOf t ∧ Row.okWide P w r b t cs := by
    cases d <;> simp [TI.agg] at ha <;> simpa only [Value.okWide, ht] using h
  obtain ⟨cs, rfl, hsz, ts', hts', _, hc⟩ := key
  rw [hts] at hts'; cases hts'
  refine ⟨cs, rfl, by simp [hsz, hn], fun j c hj => ?_⟩
  have hlt : j < ts.length := by
    have : j < cs.toList.length := by
      rcases Nat.lt_or_ge j cs.toList.length with h | h
      · exact h
      · rw [List.getElem?_eq_none h] at hj; cases hj
    simpa [hsz, hn] using this
  obtain ⟨u, hu, hok⟩ := hc j c (by simpa using hj)
  rw [Nat.mod_eq_of_lt hlt] at hu
  exact ⟨u, hu, hok⟩
end
end Go.Ev
