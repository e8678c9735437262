/-
Functions without a body: the first place of a byte in a string.
-/
import Derived.Test.YtllmdbbhokaokaaqTvW
import Derived.Lib.Bytealg
set_option linter.unusedVariables false
set_option linter.unusedSimpArgs false
namespace Go.Ev
open Go
variable {τ : Nat → Type}
theorem con_ibs {E : Env} {C : Cod τ} {f : FuncId} {fn : Func} (hf : E.P.funcs[f]? = some fn) (hname : (fn.name == "runtime.NumGoroutine") = false) (hb : fn.body.isNone = true) (hn : Extern.findNext fn = none)
    (he : Extern.find fn = some Extern.BytealgIndexByte.indexByte) (c : Con τ) (hx : c.ext = true) (hy : Nat.beq f yieldF = false) (s : Sh.Ts τ c.args → List UInt8) (k : Sh.Ts τ c.args → Int)
    (ha : ∀ a, TV.denL C (Sh.encs C c.args a) = [.v (.string ⟨⟨s a⟩⟩), .v (.int .u8 (k a))]) (hL : ∀ b, ESh.encs C c.L b = [])
    (hr : ∀ N a b r, c.F N a b = some r → (c.out C r).1.den C = .v (.int .i64 (Lib.indexByte (s a) (k a).toNat.toUInt8)) ∧ (c.out C r).2 = []) : ConOk E C f c := by
  intro N a b r h
  rw [hy, hx]
  show XSpec E f _ _ _ _
  obtain ⟨h1, h2⟩ := hr N a b r h
  rw [ha, h1, h2, hL]
  intro g w cargs hW hargs
  have hlen := hargs.1
  obtain ⟨l⟩ := cargs
  simp only [List.length_cons, List.length_nil] at hlen
  match l, hlen with
  | [x, y], _ =>
    have e1 := hargs.2 0 _ x rfl rfl
    have e2 := hargs.2 1 _ y rfl rfl
    cases e1
    cases e2
    refine ⟨.int .i64 (Lib.indexByte (s a) (k a).toNat.toUInt8), w, g, ?_, .v _, EvoP.refl hW⟩
    rw [run_callFunc_extern hf hname hb hn he]
    have := Lib.run_indexByteString (P := E.P) ⟨⟨s a⟩⟩ (k a) w
    rw [show (⟨[Value.string ⟨⟨s a⟩⟩, Value.int .u8 (k a)]⟩ : Array Value) = #[.string ⟨⟨s a⟩⟩, .int .u8 (k a)] from rfl, this]
    rfl
end Go.Ev
