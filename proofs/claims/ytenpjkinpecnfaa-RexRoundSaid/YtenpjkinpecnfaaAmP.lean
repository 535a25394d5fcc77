/-
  The abstract machine: tables out of a program; a law without arguments.
-/
import Derived.Test.YtenpjkinpecnfaaAmO
import Derived.Below
namespace Go.Am
open Go.RowKit

def fieldsKnown (P : Program) : TypeDesc → Bool
  | .struct fs => fs.toList.all fun f => (P.info? f.type).isSome
  | _ => true

def eqFine (P : Program) (t : Nat) : TypeDesc → Bool
  | .struct _ => !P.eqGuardType P.depth t && !P.stoodInHeld t
  | _ => false

/-- Is a zero of its type's form? -/
def zeroFine (d : TypeDesc) : Value → Bool
  | .agg _ => (TK.of d).isAgg
  | _ => !(TK.of d).isAgg

/-- What a program says of a type. -/
def mkTI (P : Program) (t : Nat) : Option TI :=
  match P.underlying t, P.info? t with
  | some d, some i =>
    (match i.zero with
    | some z => (match ofLeafs z.cells.toList with
      | some zl =>
        if zl.length = i.size ∧ fieldsKnown P d = true ∧ zeroFine d z = true then
          some { kind := TK.of d, size := i.size, bytes := i.bytes, zero := zl, eqOk := eqFine P t d }
        else none
      | none => none)
    | none => none)
  | _, _ => none

theorem mkTI_ok {P : Program} {t : Nat} {ti : TI} (e : mkTI P t = some ti) : TypeOk P t ti := by
  unfold mkTI at e
  split at e
  · rename_i d i hu hi
    split at e
    · rename_i z hz
      split at e
      · rename_i zl hzl
        split at e
        · rename_i hc
          simp only [Option.some.injEq] at e; subst e
          refine ⟨⟨d, hu, rfl⟩, ⟨i, hi, rfl, rfl, z, hz, hzl⟩, hc.1, ?_, ?_, ?_⟩
          · intro fs hfs f hf
            rw [hu] at hfs; simp only [Option.some.injEq] at hfs; subst hfs
            have := hc.2.1
            simp only [fieldsKnown, List.all_eq_true] at this
            exact this f hf
          · intro he
            unfold eqFine at he
            split at he
            · simpa using he
            · simp at he
          · intro i' z' hi' hz'
            rw [hi] at hi'; simp only [Option.some.injEq] at hi'; subst hi'
            rw [hz] at hz'; simp only [Option.some.injEq] at hz'; subst hz'
            have hf := hc.2.2
            have key : ∀ z : Value, zeroFine d z = true → ((TK.of d).isAgg = true → ∃ cs, z = .agg cs) ∧ ((TK.of d).isAgg = false → ∀ cs, z ≠ .agg cs) := by
              intro z hf
              cases z with
              | agg cs => exact ⟨fun _ => ⟨_, rfl⟩, fun h => by simp only [zeroFine] at hf; rw [hf] at h; cases h⟩
              | _ => exact ⟨fun h => by simp only [zeroFine] at hf; rw [h] at hf; simp at hf, fun _ cs => by simp⟩
            exact key z hf
        · simp at e
      · simp at e
    · simp at e
  · simp at e

/-- A table out of a list. -/
def tabT (l : List (Option TI)) : TT := fun t => (l[t]?).join

theorem tabT_ok {P : Program} {n : Nat} {l : List (Option TI)} (h : (List.range n).map (mkTI P) = l) : TypesOk P (tabT l) := by
  subst h
  intro t ti e
  unfold tabT at e
  rw [List.getElem?_map] at e
  rcases Nat.lt_or_ge t n with ht | ht
  · rw [List.getElem?_range ht] at e
    simp at e
    exact mkTI_ok e
  · rw [List.getElem?_eq_none (by simpa using ht)] at e; simp at e

def okFunc (fn : Func) : Option Func := if (fn.body.isSome || fn.name == "internal/bytealg.IndexByteString") && !(fn.name == "runtime.NumGoroutine") then some fn else none

def tabF (l : List (Option Func)) : Nat → Option Func := fun f => (l[f]?).join

theorem tabF_ok {P : Program} {l : List (Option Func)} (h : P.funcs.toList.map okFunc = l) : FuncsOk P (tabF l) := by
  subst h
  intro f fn e
  unfold tabF at e
  rw [List.getElem?_map] at e
  cases hf : P.funcs.toList[f]? with
  | none => rw [hf] at e; simp at e
  | some g =>
    rw [hf] at e
    simp only [Option.map_some, Option.join_some] at e
    unfold okFunc at e
    split at e
    · rename_i hc
      simp only [Option.some.injEq] at e; subst e
      simp only [Bool.and_eq_true, Bool.not_eq_true'] at hc
      exact ⟨by simpa using hf, hc.2⟩
    · simp at e

def heap0 : Heap := ⟨0, .nil⟩
def mu0 : Mu := fun _ => none

theorem sim0 (w : World) : Sim (.all w) mu0 heap0 w :=
  ⟨fun b x e => by simp [heap0, Heap.get, HT.get] at e, fun b c x y L M e => by simp [heap0, Heap.get, HT.get] at e, fun k o b e => by simp only [Frz.all, Option.map_eq_some_iff, Prod.mk.injEq] at e; obtain ⟨a, e1, e2, _⟩ := e; subst e2; exact e1, fun b x L o e => by simp [heap0, Heap.get, HT.get] at e, fun b L e => by simp [mu0] at e, fun b _ => by simp [heap0, Heap.get, HT.get], fun b hb => by simp [Frz.all] at hb, Side.refl _⟩

theorem Sim.below {w0 w : World} {μ : Mu} {h : Heap} (S : Sim (.all w0) μ h w) : Below w0.heap.size w0 w := by
  have ho : ∀ k, k < w0.heap.size → w.heap[k]? = w0.heap[k]? := fun k hk => by
    have := S.old k w0.heap[k] false (by simp [Frz.all, Array.getElem?_eq_getElem hk])
    rw [this, Array.getElem?_eq_getElem hk]
  refine ⟨S.side.os, S.side.tape, S.side.output, ?_, ho⟩
  rcases Nat.eq_zero_or_pos w0.heap.size with h0 | h0
  · omega
  · have := ho (w0.heap.size - 1) (by omega)
    rw [Array.getElem?_eq_getElem (by omega : w0.heap.size - 1 < w0.heap.size)] at this
    have := (Array.getElem?_eq_some_iff.1 this).1
    omega

/-- A law: it tells true. -/
theorem law_of {P : Program} {T : TT} {F : Nat → Option Func} (hM : P.follows .mixedOrders = true) (hT : TypesOk P T) (hF : FuncsOk P F) {n f : Nat} {args : List AV} {h h' : Heap} (e : callF T F n f args h = some (.bool true, h')) {w : World} {μ : Mu} {vargs : Array Value}
    (S : Sim (.all w) μ h w) (hargs : VRs μ args vargs.toList) : Calls P f vargs w fun e w' => e = .returned (.bool true) ∧ Below w.heap.size w w' :=
  (calls_of hM hT hF e S hargs).mono fun e' w' ⟨vv, μ', he, _, hS, hv⟩ => by
    simp only [VR] at hv; subst hv
    exact ⟨he, hS.below⟩

theorem law0_of {P : Program} {T : TT} {F : Nat → Option Func} (hM : P.follows .mixedOrders = true) (hT : TypesOk P T) (hF : FuncsOk P F) {n f : Nat} (e : (match callF T F n f [] heap0 with | some (.bool b, _) => b | _ => false) = true) (w : World) :
    Calls P f #[] w fun e w' => e = .returned (.bool true) ∧ Below w.heap.size w w' := by
  split at e
  · rename_i b h' hc
    subst e
    exact law_of hM hT hF hc (sim0 w) (by simp [VRs])
  · simp at e

end Go.Am
