/-
  Layer lex: leaves, and what its laws begin with.
-/
import Derived.Test.YtenpjkinpecnfaaLexC
import Derived.KernelRfl
namespace Go.Proofs.Ytenpjkinpecnfaa
open Go Go.Am
set_option maxRecDepth 100000
set_option maxHeartbeats 4000000
set_option linter.unusedSimpArgs false
set_option linter.unusedVariables false

/-- A leaf. -/
structure Lf where
  kind : Int
  text : List UInt8
instance : Rep Lf := ⟨2, fun _ x cs => cs = [.int .i64 x.kind, .str x.text], fun e => by rw [e]; rfl, fun e => by rw [e]; rfl, fun e _ => e⟩
/-- What a grammar sees of a token. -/
def leafOf (ts : List Tok) (s : List UInt8) (x : Tk) : List Lf :=
  if x.kind < 0 then [⟨-1, (s.drop x.at_).take x.len⟩] else match ts[x.kind.toNat]? with
    | some t => if t.skip = true then [] else [⟨x.kind, (s.drop x.at_).take x.len⟩]
    | none => [⟨-1, (s.drop x.at_).take x.len⟩]
theorem PatsOf.none : PatsOf [] [] := ⟨rfl, fun i t h => by simp at h⟩
theorem PatsOf.cons {t : Tok} {ts : List Tok} {l : List Item} {ls : List (List Item)} (h : parse t.rex = some l) (hP : PatsOf ts ls) : PatsOf (t :: ts) (l :: ls) :=
  ⟨by simp [hP.1], fun i u hu => by
    cases i with
    | zero => simp only [List.getElem?_cons_zero, Option.some.injEq] at hu ⊢; subst hu; exact h
    | succ i => simpa using hP.2 i u (by simpa using hu)⟩
theorem PatsOf.same {ts : List Tok} {ls ms : List (List Item)} (h : PatsOf ts ls) (k : PatsOf ts ms) : ls = ms := by
  refine List.ext_getElem? fun i => ?_
  by_cases hi : i < ts.length
  · rw [← h.2 i ts[i] (List.getElem?_eq_getElem hi), ← k.2 i ts[i] (List.getElem?_eq_getElem hi)]
  · rw [List.getElem?_eq_none (by have := h.1; omega), List.getElem?_eq_none (by have := k.1; omega)]
theorem map_items_inj : ∀ {es ds : List Rx}, (∀ e ∈ es, e.ok) → (∀ e ∈ ds, e.ok) → es.map Rx.items = ds.map Rx.items → es = ds
  | [], [], _, _, _ => rfl
  | [], d :: ds, _, _, h => by simp at h
  | e :: es, [], _, _, h => by simp at h
  | e :: es, d :: ds, h1, h2, h => by
    simp only [List.map_cons, List.cons.injEq] at h
    rw [items_inj (h1 e (by simp)) (h2 d (by simp)) h.1, map_items_inj (fun x hx => h1 x (by simp [hx])) (fun x hx => h2 x (by simp [hx])) h.2]
theorem PatsOf.rx {ts : List Tok} {es ds : List Rx} (h : PatsOf ts (es.map Rx.items)) (k : PatsOf ts (ds.map Rx.items)) (h1 : ∀ e ∈ es, Fit e) (h2 : ∀ e ∈ ds, e.ok) : es = ds :=
  map_items_inj (fun e he => (h1 e he).ok) h2 (h.same k)
theorem PatsOf.all {ts : List Tok} {ls : List (List Item)} (h : PatsOf ts ls) : ∀ t ∈ ts, parse t.rex ≠ Option.none := by
  intro t ht
  obtain ⟨i, hi, rfl⟩ := List.getElem_of_mem ht
  have hl := h.1
  rw [h.2 i ts[i] (List.getElem?_eq_getElem hi), List.getElem?_eq_getElem (by omega)]
  simp

def toks6 : List Tok := [⟨[97], [97, 43], false⟩, ⟨[98], [32], true⟩]
def rxs6 : List Rx := [.rep 5 (.cls [⟨97, 97⟩]), .cls [⟨32, 32⟩]]
end Go.Proofs.Ytenpjkinpecnfaa
