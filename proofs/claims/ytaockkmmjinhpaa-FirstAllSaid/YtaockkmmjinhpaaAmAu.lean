/-
  What a law is given, frozen.
-/
import Derived.Test.YtaockkmmjinhpaaAmUr
namespace Go.Am
set_option linter.unusedVariables false
variable {T : TT} {F : Nat → Option Func}

theorem UF.toW {f : Nat} {args : List AV} {h : Heap} (w : UF T F f args h fun v _ => v = .bool true) : WF T F f args h fun v _ => v = .bool true := by
  obtain ⟨n, v, g, e, _, _, q⟩ := w h (Le.refl h)
  exact ⟨n, v, g, e, q⟩

theorem u8_of {a : Int} (h1 : IntKind.u8.min ≤ a) (h2 : a ≤ IntKind.u8.max) : ∃ b : UInt8, a = b.toNat := by
  have e1 : IntKind.u8.min = 0 := by decide
  have e2 : IntKind.u8.max = 255 := by decide
  rw [e1] at h1
  rw [e2] at h2
  refine ⟨UInt8.ofNat a.toNat, ?_⟩
  have : (UInt8.ofNat a.toNat).toNat = a.toNat := by
    rw [UInt8.toNat_ofNat']; omega
  rw [this]; omega
theorem u8_lit {a : Int} (w : (Lit.int .u8 a).wf = true) : ∃ b : UInt8, a = b.toNat := by
  simp only [Lit.wf, Bool.and_eq_true, decide_eq_true_eq] at w
  exact u8_of w.1 w.2

theorem u8s_of : ∀ {zs : List Int}, (∀ z ∈ zs, IntKind.u8.min ≤ z ∧ z ≤ IntKind.u8.max) → ∃ l : List UInt8, zs = l.map fun b => (b.toNat : Int)
  | [], _ => ⟨[], rfl⟩
  | z :: zs, h => by
    obtain ⟨b, hb⟩ := u8_of (h z (by simp)).1 (h z (by simp)).2
    obtain ⟨l, hl⟩ := u8s_of (zs := zs) fun y hy => h y (by simp [hy])
    exact ⟨b :: l, by rw [hb, hl]; rfl⟩
theorem reps_u8 (h : Heap) : ∀ l : List UInt8, Reps h l (l.map fun b => [AV.int .u8 b.toNat])
  | [] => .nil
  | b :: l => .cons rfl (reps_u8 h l)
/-- Bytes that are given. -/
theorem bytes_lst {h : Heap} {v : AV} {zs : List Int} (s : Slc h v 1 (zs.map fun z => [.int .u8 z])) (hb : ∀ z ∈ zs, IntKind.u8.min ≤ z ∧ z ≤ IntKind.u8.max) : ∃ l : List UInt8, l.length = zs.length ∧ Lst (h.frzV v) v l := by
  obtain ⟨l, rfl⟩ := u8s_of hb
  refine ⟨l, by simp, _, s.frz, ?_⟩
  rw [List.map_map]
  exact reps_u8 _ l

end Go.Am
