import Derived.Test.YtkcpfhlfjdnkdaaGreatDoorZtD
import Derived.Below
namespace Go.Zr
open Go.RowKit

section
variable {P : Program} {tb : Tb} {ρ : Env}

theorem enter_run {f : FuncId} {fn : Func} (vs : Array Value) (w : World) (hf : P.funcs[f]? = some fn) (hn : (fn.name == "runtime.NumGoroutine") = false) (hb : fn.body.isSome = true) : (callFunc f vs).run P w = .ok (.enter f vs) w := by
  have hn' : ¬ fn.name = "runtime.NumGoroutine" := by simpa using hn
  obtain ⟨c, hc⟩ := Option.isSome_iff_exists.1 hb
  unfold callFunc
  simp [hf, hn', hc]

/-- Nothing that was there turns, where nothing that is named may be written. -/
theorem Ext.below {g g' : Gh} {n n' : Nat} {w w' : World} {ρ' : Env} (h : Ext ρ g n w ρ' g' n' w') (hown : ∀ o ob, g o = some ob → ob.own = false) : Below w.heap.size w w' := by
  have keep : ∀ b, b < w.heap.size → w'.heap[b]? = w.heap[b]? := fun b hb => h.keep b hb (fun ⟨o, ob, L, h1, h2, _⟩ => by rw [hown o ob h1] at h2; cases h2)
  exact ⟨h.os, h.tape, h.output, h.size, keep⟩

/-- A call that the evaluator reckons, at a start at which nothing that is named may be written. -/
theorem run_below {S : Su} (hS : SoundS P tb S) {f : FuncId} {fn : Func} {args : List AV} {v : AV} {H : Hp} {n : Nat} (hval : valOf (S (.fn f) args H n) = some v) (hp : plainV v = true)
    (hf : P.funcs[f]? = some fn) (hn : (fn.name == "runtime.NumGoroutine") = false) (hb : fn.body.isSome = true) {W : World} {vs : Array Value} (hg : GlobOk tb ρ) (hr : Rel ρ H.get W) (hfr : Fresh ρ n) (hv : VRels ρ args vs.toList)
    (hown : ∀ o ob, H.get o = some ob → ob.own = false) : Calls P f vs W fun e W' => ∃ x, e = .returned x ∧ VRel ρ v x ∧ Below W.heap.size W W' := by
  obtain ⟨H', n', h⟩ := valOf_some hval
  have h1 := hS (.fn f) args H n v H' n' h ρ W vs hg hr hfr hv
  simp only at h1
  rw [enter_run vs W hf hn hb] at h1
  refine callsIn_wide.1 (CallsIn.mono h1 fun e W' he => ?_)
  cases e with
  | returned x =>
    obtain ⟨ρ', hx, hvx⟩ := he
    exact ⟨x, rfl, VRel.ofP hp hvx, hx.below hown⟩
  | panicked _ => exact he.elim
  | outgrown => exact he.elim

/-! ### The start: globals that hold what is known, and are not written. -/
def hiOf (W : World) (g : Nat) : Nat := match W.heap[g]? with
  | some (.cells c _ _) => c.size
  | _ => 0
def startEnv (W : World) (ng : Nat) : Env := { loc := fun g => if g < ng then some ⟨g, 0, hiOf W g⟩ else none, imm := fun _ _ => none }

theorem start_glob {P : Program} {W : World} {ng : Nat} : GlobOk (tbOf P ng) (startEnv W ng) := fun g hg => ⟨hiOf W g, if_pos hg⟩
theorem start_fresh {W : World} {ng n : Nat} (h : ng ≤ n) : Fresh (startEnv W ng) n := fun o ho => if_neg (by omega)

/-- A start's object: a row that nobody writes, over a variable's block. -/
def StartAt (W : World) (ng : Nat) (o : Nat) (ob : AObj) : Prop := o < ng ∧ ∃ ty fr cs avs, ob = .row ty avs 1 ∧ W.heap[o]? = some (.cells cs ty fr) ∧ VRels (startEnv W ng) avs cs.toList

theorem start_rel {W : World} {ng : Nat} {g : Gh} (h : ∀ o ob, g o = some ob → StartAt W ng o ob) : Rel (startEnv W ng) g W ∧ ∀ o ob, g o = some ob → ob.own = false := by
  have hown : ∀ o ob, g o = some ob → ob.own = false := fun o ob ho => by
    obtain ⟨_, ty, fr, cs, avs, rfl, _⟩ := h o ob ho
    rfl
  refine ⟨⟨fun o ob ho => ?_, (fun o o' ob ob' L L' _ h1 _ h2 => by rw [hown o ob h1] at h2; cases h2), (fun b i v hv => by cases hv), (fun o ob L b i v _ _ _ hv => by cases hv)⟩, hown⟩
  obtain ⟨hlt, ty, fr, cs, avs, rfl, hh, hv⟩ := h o ob ho
  refine ⟨⟨o, 0, cs.size⟩, ?_, row_rel hh hv⟩
  show (if o < ng then some (⟨o, 0, hiOf W o⟩ : Loc) else none) = _
  rw [if_pos hlt]
  simp [hiOf, hh]
end
end Go.Zr
