/-
  The abstract machine for the kernel: operations are made ready once, slots lie in nested pairs.
-/
import Derived.Test.YtaockkmmjinhpaaAmFastEq
import Derived.Test.YtaockkmmjinhpaaAmZ
namespace Go.Am
variable {T : TT} {F : Nat → Option Func}

/-- Slots: eights of eights. -/
structure N8 (α : Type) where
  a0 : α
  a1 : α
  a2 : α
  a3 : α
  a4 : α
  a5 : α
  a6 : α
  a7 : α
def Tr : Nat → Type
  | 0 => AV
  | k + 1 => N8 (Tr k)
structure GB (k : Nat) where
  f : Tr k → AV
structure SB (k : Nat) where
  f : AV → Tr k → Tr k
noncomputable def g8 (k : Nat) (g : Tr k → AV) (i : Nat) : GB (k + 1) := match i with
  | 0 => ⟨fun p => N8.rec (fun a0 _ _ _ _ _ _ _ => g a0) p⟩
  | 1 => ⟨fun p => N8.rec (fun _ a1 _ _ _ _ _ _ => g a1) p⟩
  | 2 => ⟨fun p => N8.rec (fun _ _ a2 _ _ _ _ _ => g a2) p⟩
  | 3 => ⟨fun p => N8.rec (fun _ _ _ a3 _ _ _ _ => g a3) p⟩
  | 4 => ⟨fun p => N8.rec (fun _ _ _ _ a4 _ _ _ => g a4) p⟩
  | 5 => ⟨fun p => N8.rec (fun _ _ _ _ _ a5 _ _ => g a5) p⟩
  | 6 => ⟨fun p => N8.rec (fun _ _ _ _ _ _ a6 _ => g a6) p⟩
  | _ => ⟨fun p => N8.rec (fun _ _ _ _ _ _ _ a7 => g a7) p⟩
noncomputable def s8 (k : Nat) (g : AV → Tr k → Tr k) (i : Nat) : SB (k + 1) := match i with
  | 0 => ⟨fun v p => N8.rec (fun a0 a1 a2 a3 a4 a5 a6 a7 => N8.mk (g v a0) a1 a2 a3 a4 a5 a6 a7) p⟩
  | 1 => ⟨fun v p => N8.rec (fun a0 a1 a2 a3 a4 a5 a6 a7 => N8.mk a0 (g v a1) a2 a3 a4 a5 a6 a7) p⟩
  | 2 => ⟨fun v p => N8.rec (fun a0 a1 a2 a3 a4 a5 a6 a7 => N8.mk a0 a1 (g v a2) a3 a4 a5 a6 a7) p⟩
  | 3 => ⟨fun v p => N8.rec (fun a0 a1 a2 a3 a4 a5 a6 a7 => N8.mk a0 a1 a2 (g v a3) a4 a5 a6 a7) p⟩
  | 4 => ⟨fun v p => N8.rec (fun a0 a1 a2 a3 a4 a5 a6 a7 => N8.mk a0 a1 a2 a3 (g v a4) a5 a6 a7) p⟩
  | 5 => ⟨fun v p => N8.rec (fun a0 a1 a2 a3 a4 a5 a6 a7 => N8.mk a0 a1 a2 a3 a4 (g v a5) a6 a7) p⟩
  | 6 => ⟨fun v p => N8.rec (fun a0 a1 a2 a3 a4 a5 a6 a7 => N8.mk a0 a1 a2 a3 a4 a5 (g v a6) a7) p⟩
  | _ => ⟨fun v p => N8.rec (fun a0 a1 a2 a3 a4 a5 a6 a7 => N8.mk a0 a1 a2 a3 a4 a5 a6 (g v a7)) p⟩
noncomputable def mkG : (k : Nat) → Nat → GB k
  | 0, _ => ⟨fun v => v⟩
  | k + 1, i => @GB.rec k (fun _ => GB (k + 1)) (fun g => g8 k g (i % 8)) (mkG k (i / 8))
noncomputable def mkS : (k : Nat) → Nat → SB k
  | 0, _ => ⟨fun v _ => v⟩
  | k + 1, i => @SB.rec k (fun _ => SB (k + 1)) (fun g => s8 k g (i % 8)) (mkS k (i / 8))
def und : (k : Nat) → Tr k
  | 0 => undefA
  | k + 1 => ⟨und k, und k, und k, und k, und k, und k, und k, und k⟩

theorem m8 (i : Nat) : i % 8 = 0 ∨ i % 8 = 1 ∨ i % 8 = 2 ∨ i % 8 = 3 ∨ i % 8 = 4 ∨ i % 8 = 5 ∨ i % 8 = 6 ∨ i % 8 = 7 := by omega

theorem mkG_und : ∀ (k i : Nat), (mkG k i).f (und k) = undefA
  | 0, i => rfl
  | k + 1, i => by
    have ih := mkG_und k (i / 8)
    simp only [mkG]
    generalize mkG k (i / 8) = gb at ih
    obtain ⟨g⟩ := gb
    rcases m8 i with h | h | h | h | h | h | h | h <;> rw [h] <;> exact ih

theorem mkG_mkS : ∀ (k i j : Nat) (v : AV) (t : Tr k), i < 8 ^ k → j < 8 ^ k → (mkG k j).f ((mkS k i).f v t) = if i = j then v else (mkG k j).f t
  | 0, i, j, v, t, hi, hj => by
    have : i = j := by omega
    rw [if_pos this]; rfl
  | k + 1, i, j, v, t, hi, hj => by
    have hi2 : i / 8 < 8 ^ k := by rw [Nat.pow_succ] at hi; omega
    have hj2 : j / 8 < 8 ^ k := by rw [Nat.pow_succ] at hj; omega
    have ih := fun t => mkG_mkS k (i / 8) (j / 8) v t hi2 hj2
    have e : i = j ↔ i / 8 = j / 8 ∧ i % 8 = j % 8 := by omega
    simp only [mkG, mkS, e]
    generalize mkG k (j / 8) = gb at ih
    generalize mkS k (i / 8) = sb at ih
    obtain ⟨g⟩ := gb
    obtain ⟨m⟩ := sb
    obtain ⟨a0, a1, a2, a3, a4, a5, a6, a7⟩ := t
    rcases m8 i with h | h | h | h | h | h | h | h <;> rcases m8 j with h' | h' | h' | h' | h' | h' | h' | h' <;> rw [h, h'] <;> first
      | (simp only [and_true]; exact ih _)
      | (rw [if_neg (by omega)]; rfl)

abbrev SS := Tr 3

/-- Operands, made ready. -/
structure EB where
  ok : Bool
  f : SS → AV
def mkC (x : Option AV) : EB := match x with
  | some a => ⟨true, fun _ => a⟩
  | none => ⟨false, fun _ => undefA⟩
noncomputable def mkE (x : Operand) : EB := match x with
  | .tmp t => if t < 512 then GB.rec (fun g => ⟨true, g⟩) (mkG 3 t) else ⟨true, fun _ => undefA⟩
  | .const v => mkC (ofValue v)
  | .global _ => ⟨false, fun _ => undefA⟩
  | .func f => ⟨true, fun _ => .func (.func f) []⟩
theorem mkE_tmp (t : Nat) : mkE (.tmp t) = if t < 512 then ⟨true, (mkG 3 t).f⟩ else ⟨true, fun _ => undefA⟩ := by
  simp only [mkE]
noncomputable def mkEs : List Operand → Option (SS → List AV)
  | [] => some fun _ => []
  | x :: l => match (mkE x).ok, mkEs l with
    | true, some g => some fun s => (mkE x).f s :: g s
    | _, _ => none
noncomputable def evX (s : SS) (x : Operand) : Option AV := if (mkE x).ok then some ((mkE x).f s) else none

/-- Where a result goes. -/
structure DB where
  f : AV → SS → SS
noncomputable def mkD (n : Nat) (d : Option Nat) : DB := match d with
  | some d => if d < n then SB.rec (fun g => ⟨g⟩) (mkS 3 d) else ⟨fun _ s => s⟩
  | none => ⟨fun _ s => s⟩
theorem mkD_some (n d : Nat) : mkD n (some d) = if d < n then ⟨(mkS 3 d).f⟩ else ⟨fun _ s => s⟩ := by
  simp only [mkD]

noncomputable def toL (n : Nat) (t : SS) : List AV := (List.range n).map fun i => (mkG 3 i).f t
/-- Slots beyond the last one are never set. -/
def Ok (n : Nat) (t : SS) : Prop := n ≤ 512 ∧ ∀ i, n ≤ i → i < 512 → (mkG 3 i).f t = undefA

theorem toL_len (n : Nat) (t : SS) : (toL n t).length = n := by simp [toL]
theorem toL_getD {n : Nat} {t : SS} (ok : Ok n t) (i : Nat) : (toL n t).getD i undefA = if i < 512 then (mkG 3 i).f t else undefA := by
  rw [List.getD_eq_getElem?_getD]
  unfold toL
  rw [List.getElem?_map]
  rcases Nat.lt_or_ge i n with h | h
  · rw [List.getElem?_range h, if_pos (by have := ok.1; omega)]; rfl
  · rw [List.getElem?_eq_none (by simpa using h)]
    split
    · rename_i h2; exact (ok.2 i h h2).symm
    · rfl

theorem mkC_eq (o : Option AV) (t : SS) : (if (mkC o).ok = true then some ((mkC o).f t) else none) = o := by cases o <;> rfl
theorem evX_eq {n : Nat} {t : SS} (ok : Ok n t) : evX t = evalO (toL n t) := by
  funext x
  cases x with
  | tmp i =>
    simp only [evX, mkE_tmp, evalO, toL_getD ok]
    split <;> rfl
  | const v =>
    simp only [evX, mkE, evalO]
    exact mkC_eq _ t
  | global g => rfl
  | func f => rfl

theorem mkD_ok {n : Nat} {t : SS} (ok : Ok n t) (d : Option Nat) (v : AV) : Ok n ((mkD n d).f v t) ∧ toL n ((mkD n d).f v t) = putA (toL n t) d v := by
  cases d with
  | none => exact ⟨ok, rfl⟩
  | some d =>
    have hn := ok.1
    rw [mkD_some]
    by_cases hd : d < n
    · rw [if_pos hd]
      refine ⟨⟨hn, fun i h1 h2 => ?_⟩, ?_⟩
      · rw [mkG_mkS 3 d i v t (by omega) (by omega), if_neg (by omega)]
        exact ok.2 i h1 h2
      · refine List.ext_getElem? fun j => ?_
        simp only [putA]
        rw [List.getElem?_set, toL_len]
        unfold toL
        rw [List.getElem?_map, List.getElem?_map]
        rcases Nat.lt_or_ge j n with h | h
        · rw [List.getElem?_range h]
          simp only [Option.map_some]
          rw [mkG_mkS 3 d j v t (by omega) (by omega)]
          by_cases hj : d = j
          · subst hj; simp [hd]
          · simp [hj]
        · rw [List.getElem?_eq_none (by simpa using h), if_neg (by omega)]
          rfl
    · rw [if_neg hd]
      refine ⟨ok, ?_⟩
      simp only [putA]
      rw [List.set_eq_of_length_le (by rw [toL_len]; omega)]

noncomputable def ob {α β : Type} (r : Option α) (k : α → Option β) : Option β := Option.rec none k r
@[simp] theorem ob_some {α β : Type} (a : α) (k : α → Option β) : ob (some a) k = k a := rfl
@[simp] theorem ob_none {α β : Type} (k : α → Option β) : ob none k = none := rfl

noncomputable def obP {α β γ : Type} (r : Option (α × β)) (k : α → β → Option γ) : Option γ := @Option.rec (α × β) (fun _ => Option γ) none (@Prod.rec α β (fun _ => Option γ) k) r
@[simp] theorem obP_some {α β γ : Type} (a : α) (b : β) (k : α → β → Option γ) : obP (some (a, b)) k = k a b := rfl
@[simp] theorem obP_none {α β γ : Type} (k : α → β → Option γ) : obP none k = none := rfl
theorem ob_eq {α β : Type} {r : Option α} {k : α → Option β} {b : β} (e : ob r k = some b) : ∃ a, r = some a ∧ k a = some b := by
  cases r with
  | none => cases e
  | some a => exact ⟨a, rfl, e⟩
theorem obP_eq {α β γ : Type} {r : Option (α × β)} {k : α → β → Option γ} {c : γ} (e : obP r k = some c) : ∃ a b, r = some (a, b) ∧ k a b = some c := by
  cases r with
  | none => cases e
  | some a => exact ⟨a.1, a.2, rfl, e⟩

/-! blocks, cells, numbers -/
theorem beqT {n m : Nat} (h : n = m) : Nat.beq n m = true := by subst h; exact Nat.beq_refl n
theorem beqF {n m : Nat} (h : ¬ n = m) : Nat.beq n m = false := by
  cases e : Nat.beq n m with
  | false => rfl
  | true => exact absurd (Nat.eq_of_beq_eq_true e) h
noncomputable def getK (t : HT) : Nat → Option Blk := HT.rec (fun _ => none) (fun v _ _ l r n => Bool.rec (Bool.rec (r (Nat.sub (Nat.div n 2) 1)) (l (Nat.div n 2)) (Nat.beq (Nat.mod n 2) 1)) v (Nat.beq n 0)) t
theorem getK_eq : ∀ (t : HT) (n : Nat), getK t n = t.get n
  | .nil, n => rfl
  | .node v l r, n => by
    have e : getK (.node v l r) n = @Bool.rec (fun _ => Option Blk) (@Bool.rec (fun _ => Option Blk) (getK r (n / 2 - 1)) (getK l (n / 2)) (Nat.beq (n % 2) 1)) v (Nat.beq n 0) := rfl
    rw [e, getK_eq l, getK_eq r, HT.get]
    by_cases h : n = 0
    · rw [if_pos h, beqT h]
    · rw [if_neg h, show Nat.beq n 0 = false from beqF h]
      by_cases h1 : n % 2 = 1
      · rw [if_pos h1, beqT h1]
      · rw [if_neg h1, show Nat.beq (n % 2) 1 = false from beqF h1]

noncomputable def nilK (x : Option Blk) (f : Nat) : Nat → HT := Nat.rec (fun _ => .nil) (fun _ ih n => Bool.rec (Bool.rec (.node none .nil (ih (Nat.sub (Nat.div n 2) 1))) (.node none (ih (Nat.div n 2)) .nil) (Nat.beq (Nat.mod n 2) 1)) (.node x .nil .nil) (Nat.beq n 0)) f
noncomputable def putK (x : Option Blk) (f : Nat) (t : HT) : Nat → HT := HT.rec (fun n => nilK x f n) (fun v l r ihl ihr n => Bool.rec (Bool.rec (.node v l (ihr (Nat.sub (Nat.div n 2) 1))) (.node v (ihl (Nat.div n 2)) r) (Nat.beq (Nat.mod n 2) 1)) (.node x l r) (Nat.beq n 0)) t
theorem nilK_eq (x : Option Blk) : ∀ (f g n : Nat), n < f → n < g → nilK x g n = HT.put f .nil n x
  | 0, g, n, h, _ => by omega
  | f + 1, 0, n, h, h' => by omega
  | f + 1, g + 1, n, h, h' => by
    have e : nilK x (g + 1) n = @Bool.rec (fun _ => HT) (@Bool.rec (fun _ => HT) (.node none .nil (nilK x g (n / 2 - 1))) (.node none (nilK x g (n / 2)) .nil) (Nat.beq (n % 2) 1)) (.node x .nil .nil) (Nat.beq n 0) := rfl
    rw [e, HT.put]
    by_cases h : n = 0
    · rw [if_pos h, beqT h]
    · rw [if_neg h, show Nat.beq n 0 = false from beqF h]
      by_cases h1 : n % 2 = 1
      · rw [if_pos h1, beqT h1, ← nilK_eq x f g (n / 2) (by omega) (by omega)]
      · rw [if_neg h1, show Nat.beq (n % 2) 1 = false from beqF h1, ← nilK_eq x f g (n / 2 - 1) (by omega) (by omega)]
theorem putK_eq (x : Option Blk) : ∀ (t : HT) (f g n : Nat), n < f → n < g → putK x g t n = HT.put f t n x
  | .nil, f, g, n, h, h' => nilK_eq x f g n h h'
  | .node v l r, 0, g, n, h, _ => by omega
  | .node v l r, f + 1, g, n, h, h' => by
    have e : putK x g (.node v l r) n = @Bool.rec (fun _ => HT) (@Bool.rec (fun _ => HT) (.node v l (putK x g r (n / 2 - 1))) (.node v (putK x g l (n / 2)) r) (Nat.beq (n % 2) 1)) (.node x l r) (Nat.beq n 0) := rfl
    rw [e, HT.put]
    by_cases h : n = 0
    · rw [if_pos h, beqT h]
    · rw [if_neg h, show Nat.beq n 0 = false from beqF h]
      by_cases h1 : n % 2 = 1
      · rw [if_pos h1, beqT h1, putK_eq x l f g (n / 2) (by omega) (by omega)]
      · rw [if_neg h1, show Nat.beq (n % 2) 1 = false from beqF h1, putK_eq x r f g (n / 2 - 1) (by omega) (by omega)]

noncomputable def nthK (l : List AV) : Nat → Option AV := List.rec (fun _ => none) (fun a _ ih n => Nat.rec (some a) (fun m _ => ih m) n) l
theorem nthK_eq : ∀ (l : List AV) (n : Nat), nthK l n = l[n]?
  | [], n => rfl
  | a :: l, 0 => rfl
  | a :: l, n + 1 => nthK_eq l n
noncomputable def setK (v : AV) (l : List AV) : Nat → List AV := List.rec (fun _ => []) (fun a l ih n => Nat.rec (v :: l) (fun m _ => a :: ih m) n) l
theorem setK_eq (v : AV) : ∀ (l : List AV) (n : Nat), setK v l n = l.set n v
  | [], n => rfl
  | a :: l, 0 => rfl
  | a :: l, n + 1 => by
    show a :: setK v l n = a :: l.set n v
    rw [setK_eq v l n]

noncomputable def blkC {γ : Type} (r : Option Blk) (k : List AV → Bool → Option γ) : Option γ := ob r fun b => Blk.rec k (fun _ _ => none) (fun _ => none) (fun _ => none) b
theorem blkC_eq {γ : Type} {r : Option Blk} {k : List AV → Bool → Option γ} {c : γ} (e : blkC r k = some c) : ∃ cs w, r = some (.cells cs w) ∧ k cs w = some c := by
  obtain ⟨b, rfl, e⟩ := ob_eq e
  cases b with
  | cells cs w => exact ⟨cs, w, rfl, e⟩
  | map _ _ => cases e
  | loop _ => cases e
  | defers _ => cases e

noncomputable def kN (k : IntKind) : Nat := IntKind.rec 0 1 2 3 4 5 6 7 k
theorem kN_eq (k k' : IntKind) : Nat.beq (kN k) (kN k') = decide (k = k') := by cases k <;> cases k' <;> rfl
noncomputable def wrapK (k : IntKind) (n : Int) : Int := @Bool.rec (fun _ => Int) (k.wrap n) (@Int.rec (fun _ => Int) (fun m => @Bool.rec (fun _ => Int) (k.wrap n) n (Nat.ble m 9223372036854775807)) (fun _ => k.wrap n) n) (Nat.beq (kN k) 3)
theorem wrapK_eq (k : IntKind) (n : Int) : wrapK k n = k.wrap n := by
  cases k <;> first
    | rfl
    | skip
  cases n with
  | negSucc m => rfl
  | ofNat m =>
    show @Bool.rec (fun _ => Int) (IntKind.wrap .i64 (Int.ofNat m)) (Int.ofNat m) (Nat.ble m 9223372036854775807) = _
    cases h : Nat.ble m 9223372036854775807 with
    | false => rfl
    | true =>
      have := Nat.le_of_ble_eq_true h
      simp [IntKind.wrap, IntKind.bits, IntKind.signed]
      omega
noncomputable def addZ (a b : Int) : Int := @Int.rec (fun _ => Int) (fun m => @Int.rec (fun _ => Int) (fun n => Int.ofNat (Nat.add m n)) (fun _ => a + b) b) (fun _ => a + b) a
theorem addZ_eq (a b : Int) : addZ a b = a + b := by cases a <;> cases b <;> rfl
noncomputable def subZ (a b : Int) : Int := @Int.rec (fun _ => Int) (fun m => @Int.rec (fun _ => Int) (fun n => @Bool.rec (fun _ => Int) (a - b) (Int.ofNat (Nat.sub m n)) (Nat.ble n m)) (fun _ => a - b) b) (fun _ => a - b) a
theorem subZ_eq (a b : Int) : subZ a b = a - b := by
  cases a <;> cases b <;> try rfl
  rename_i m n
  show @Bool.rec (fun _ => Int) (Int.ofNat m - Int.ofNat n) (Int.ofNat (m - n)) (Nat.ble n m) = _
  cases h : Nat.ble n m with
  | false => rfl
  | true =>
    have := Nat.le_of_ble_eq_true h
    show Int.ofNat (m - n) = Int.ofNat m - Int.ofNat n
    simp only [Int.ofNat_eq_natCast]; omega
noncomputable def ltZ (a b : Int) : Bool := @Int.rec (fun _ => Bool) (fun m => @Int.rec (fun _ => Bool) (fun n => Nat.ble (Nat.succ m) n) (fun _ => false) b) (fun m => @Int.rec (fun _ => Bool) (fun _ => true) (fun n => Nat.ble (Nat.succ n) m) b) a
theorem ltZ_eq (a b : Int) : ltZ a b = decide (a < b) := by
  cases a <;> cases b <;> rename_i m n
  · show Nat.ble (m + 1) n = _
    rw [Bool.eq_iff_iff, Nat.ble_eq, decide_eq_true_iff]; simp only [Int.ofNat_eq_natCast]; omega
  · show false = _
    symm; rw [decide_eq_false_iff_not]; simp only [Int.ofNat_eq_natCast]; omega
  · show true = _
    symm; rw [decide_eq_true_iff]; simp only [Int.ofNat_eq_natCast]; omega
  · show Nat.ble (n + 1) m = _
    rw [Bool.eq_iff_iff, Nat.ble_eq, decide_eq_true_iff]; omega
noncomputable def eqZ (a b : Int) : Bool := @Int.rec (fun _ => Bool) (fun m => @Int.rec (fun _ => Bool) (fun n => Nat.beq m n) (fun _ => false) b) (fun m => @Int.rec (fun _ => Bool) (fun _ => false) (fun n => Nat.beq m n) b) a
theorem eqZ_eq (a b : Int) : eqZ a b = (a == b) := by
  cases a <;> cases b <;> rename_i m n
  · show Nat.beq m n = _
    rw [Bool.eq_iff_iff, Nat.beq_eq, beq_iff_eq]; simp only [Int.ofNat_eq_natCast]; omega
  · show false = _
    symm; rw [beq_eq_false_iff_ne]; simp only [Int.ofNat_eq_natCast, ne_eq]; omega
  · show false = _
    symm; rw [beq_eq_false_iff_ne]; simp only [Int.ofNat_eq_natCast, ne_eq]; omega
  · show Nat.beq m n = _
    rw [Bool.eq_iff_iff, Nat.beq_eq, beq_iff_eq]; omega
noncomputable def notK (b : Bool) : Bool := @Bool.rec (fun _ => Bool) true false b
theorem notK_eq (b : Bool) : notK b = !b := by cases b <;> rfl

abbrev CallT := Nat → List AV → Heap → Option (AV × Heap)
structure Bx where
  run : CallT → CallT → SS → Heap → Option (SS × Heap)
structure BF where
  f : AV → AV → Option AV
def bad : Bx := ⟨fun _ _ _ _ => none⟩

/-- Two operands, of an operation. -/
noncomputable def intK (T : TT) (op : BinOp) (t : Nat) (k : IntKind → Int → Int → AV) : BF := ⟨fun x y => AV.casesOn (motive_1 := fun _ => Option AV) x (fun kx a => AV.casesOn (motive_1 := fun _ => Option AV) y (fun ky b => @Bool.rec (fun _ => Option AV) none (some (k kx a b)) (Nat.beq (kN kx) (kN ky))) (fun _ => binOpA T op t x y) (fun _ => binOpA T op t x y) (fun _ => binOpA T op t x y) (fun _ _ _ _ => binOpA T op t x y) (fun _ => binOpA T op t x y) (fun _ _ => binOpA T op t x y) (binOpA T op t x y) (fun _ _ => binOpA T op t x y) (binOpA T op t x y) (fun _ => binOpA T op t x y) (fun _ => binOpA T op t x y)) (fun _ => binOpA T op t x y) (fun _ => binOpA T op t x y) (fun _ => binOpA T op t x y) (fun _ _ _ _ => binOpA T op t x y) (fun _ => binOpA T op t x y) (fun _ _ => binOpA T op t x y) (binOpA T op t x y) (fun _ _ => binOpA T op t x y) (binOpA T op t x y) (fun _ => binOpA T op t x y) (fun _ => binOpA T op t x y)⟩
noncomputable def binF (T : TT) (op : BinOp) (t : Nat) : BF := match op with
  | .add => intK T .add t fun k a b => .int k (wrapK k (addZ a b))
  | .sub => intK T .sub t fun k a b => .int k (wrapK k (subZ a b))
  | .lss => intK T .lss t fun _ a b => .bool (ltZ a b)
  | .leq => intK T .leq t fun _ a b => .bool (notK (ltZ b a))
  | .gtr => intK T .gtr t fun _ a b => .bool (ltZ b a)
  | .geq => intK T .geq t fun _ a b => .bool (notK (ltZ a b))
  | .eql => intK T .eql t fun _ a b => .bool (eqZ a b)
  | .neq => intK T .neq t fun _ a b => .bool (notK (eqZ a b))
  | op => ⟨fun x y => binOpA T op t x y⟩

theorem intK_eq (op : BinOp) (h1 : ¬(op = .shl ∨ op = .shr)) (t : Nat) (k : IntKind → Int → Int → AV) (h : ∀ kx a b, intOp op kx a b = some (k kx a b)) (x y : AV) : (intK T op t k).f x y = binOpA T op t x y := by
  cases x <;> cases y <;> try rfl
  rename_i kx a ky b
  show @Bool.rec (fun _ => Option AV) none (some (k kx a b)) (Nat.beq (kN kx) (kN ky)) = _
  simp only [binOpA, kN_eq, h, if_neg h1]
  by_cases e : kx = ky
  · rw [if_pos e]; simp [e]
  · rw [if_neg e]; simp [e]
theorem binF_eq (op : BinOp) (t : Nat) (x y : AV) : (binF T op t).f x y = binOpA T op t x y := by
  cases op <;> first
    | rfl
    | (refine intK_eq _ (by simp) t _ (fun kx a b => ?_) x y
       simp only [intOp, wrapK_eq, addZ_eq, subZ_eq, ltZ_eq, eqZ_eq, notK_eq, bne, Option.some.injEq, AV.bool.injEq, gt_iff_lt, ge_iff_le]
       try (first | rfl | (rw [← decide_not]; simp only [Int.not_lt])))

/-- Offsets, told ahead. -/
def fieldOff (T : TT) (t f : Nat) : Option (Nat × Nat) := match T t with
  | some ti => (match ti.kind with
    | .strct fs => (match fs[f]? with
      | some (_, ft, off) => some (ft, off)
      | none => none)
    | _ => none)
  | none => none

structure LF where
  f : Heap → Nat → Nat → Option AV
noncomputable def cellK (h : Heap) (b o : Nat) : Option AV := @Heap.rec (fun _ => Option AV) (fun _ l => blkC (getK l b) fun cs _ => nthK cs o) h
theorem cellK_eq (h : Heap) (b o : Nat) : cellK h b o = match h.get b with | some (.cells cs _) => cs[o]? | _ => none := by
  obtain ⟨nx, l⟩ := h
  show blkC (getK l b) (fun cs _ => nthK cs o) = _
  simp only [getK_eq, nthK_eq, Heap.get]
  cases l.get b with
  | none => rfl
  | some x => cases x <;> rfl
noncomputable def loadF (T : TT) (t : Nat) : LF := match T t with
  | some ti => if ti.kind.isAgg then ⟨fun h b o => match loadCells h b o ti.size with | some l => some (.agg l) | none => none⟩
    else ⟨fun h b o => cellK h b o⟩
  | none => ⟨fun _ _ _ => none⟩
theorem loadF_eq (t : Nat) (h : Heap) (b o : Nat) : (loadF T t).f h b o = loadVar T h t b o := by
  unfold loadF loadVar
  cases T t with
  | none => rfl
  | some ti =>
    simp only; split
    · rfl
    · exact cellK_eq h b o

structure SF where
  f : Heap → Nat → Nat → AV → Option Heap
noncomputable def cellS (h : Heap) (b o : Nat) (v : AV) : Option Heap := @Heap.rec (fun _ => Option Heap) (fun nx l => blkC (getK l b) fun cs w => @Bool.rec (fun _ => Option Heap) none (ob (nthK cs o) fun _ => some ⟨nx, putK (some (.cells (setK v cs o) true)) (Nat.succ b) l b⟩) w) h
theorem cellS_eq {h h' : Heap} {b o : Nat} {v : AV} (hv : v.leaf = true) (e : cellS h b o v = some h') : storeCells h b o [v] = some h' := by
  obtain ⟨nx, l⟩ := h
  have e : blkC (getK l b) (fun cs w => @Bool.rec (fun _ => Option Heap) none (ob (nthK cs o) fun _ => some ⟨nx, putK (some (.cells (setK v cs o) true)) (Nat.succ b) l b⟩) w) = some h' := e
  obtain ⟨cs, w, e1, e2⟩ := blkC_eq e
  cases w with
  | false => simp at e2
  | true =>
    obtain ⟨a, e3, e4⟩ := ob_eq (show ob (nthK cs o) (fun _ => some (⟨nx, putK (some (.cells (setK v cs o) true)) (Nat.succ b) l b⟩ : Heap)) = some h' from e2)
    simp only [Option.some.injEq] at e4
    rw [nthK_eq] at e3
    have hl : o < cs.length := (List.getElem?_eq_some_iff.mp e3).1
    rw [getK_eq] at e1
    simp only [storeCells, Heap.get, e1]
    rw [if_pos ⟨by simpa using Nat.succ_le_of_lt hl, by simp [hv]⟩, ← e4, setK_eq, putK_eq _ l (b + 1) (b + 1) b (by omega) (by omega)]
    rfl
noncomputable def leafS (h : Heap) (b o : Nat) (v : AV) : Option Heap := AV.casesOn (motive_1 := fun _ => Option Heap) v (fun _ _ => cellS h b o v) (fun _ => cellS h b o v) (fun _ => cellS h b o v) (fun _ => cellS h b o v) (fun _ _ _ _ => cellS h b o v) (fun _ => cellS h b o v) (fun _ _ => cellS h b o v) (cellS h b o v) (fun _ _ => cellS h b o v) (cellS h b o v) (fun l => storeCells h b o l) (fun _ => none)
theorem leafS_eq {h h' : Heap} {b o : Nat} {v : AV} (e : leafS h b o v = some h') (n : v.leaf = true) : storeCells h b o v.cells = some h' := by
  cases v <;> first
    | exact cellS_eq n e
    | simp [AV.leaf] at n
noncomputable def storeF (T : TT) (t : Nat) : SF := match T t with
  | some ti => if ti.size = 1 then (if ti.kind.isAgg then ⟨fun h b o v => storeVar T h t b o v⟩ else ⟨fun h b o v => if v.leaf then leafS h b o v else none⟩) else ⟨fun h b o v => storeVar T h t b o v⟩
  | none => ⟨fun _ _ _ _ => none⟩
theorem storeF_eq {t : Nat} {h h' : Heap} {b o : Nat} {v : AV} (e : (storeF T t).f h b o v = some h') : storeVar T h t b o v = some h' := by
  unfold storeF at e
  split at e
  · rename_i ti ht
    split at e
    · rename_i hs
      split at e
      · exact e
      · simp only at e
        split at e
        · rename_i hv
          have := leafS_eq e hv
          simp only [storeVar, ht, hs]
          rw [if_pos]
          · exact this
          · cases v <;> first | rfl | simp [AV.leaf] at hv
        · simp at e
    · exact e
  · simp at e

abbrev DF := AV → SS → SS
noncomputable def finV (d : DF) (s : SS) (h : Heap) (r : Option AV) : Option (SS × Heap) := ob r fun v => some (d v s, h)
noncomputable def finX (d : DF) (s : SS) (r : Option (AV × Heap)) : Option (SS × Heap) := obP r fun v h => some (d v s, h)

noncomputable def opLoad (l : Heap → Nat → Nat → Option AV) (d : DF) (x : AV) (s : SS) (h : Heap) : Option (SS × Heap) := AV.casesOn (motive_1 := fun _ => Option (SS × Heap)) x (fun _ _ => none) (fun _ => none) (fun _ => none) (fun a => obP a fun b o => finV d s h (l h b o)) (fun _ _ _ _ => none) (fun _ => none) (fun _ _ => none) (none) (fun _ _ => none) (none) (fun _ => none) (fun _ => none)
noncomputable def opStore (f : Heap → Nat → Nat → AV → Option Heap) (d : DF) (x y : AV) (s : SS) (h : Heap) : Option (SS × Heap) := AV.casesOn (motive_1 := fun _ => Option (SS × Heap)) x (fun _ _ => none) (fun _ => none) (fun _ => none) (fun a => obP a fun b o => ob (f h b o y) fun h' => some (d undefA s, h')) (fun _ _ _ _ => none) (fun _ => none) (fun _ _ => none) (none) (fun _ _ => none) (none) (fun _ => none) (fun _ => none)
noncomputable def opFieldAddr (off : Nat) (d : DF) (x : AV) (s : SS) (h : Heap) : Option (SS × Heap) := AV.casesOn (motive_1 := fun _ => Option (SS × Heap)) x (fun _ _ => none) (fun _ => none) (fun _ => none) (fun a => obP a fun b o => some (d (.ptr (some (b, Nat.add o off))) s, h)) (fun _ _ _ _ => none) (fun _ => none) (fun _ _ => none) (none) (fun _ _ => none) (none) (fun _ => none) (fun _ => none)
noncomputable def natK {α : Type} (i : Int) (n : Nat) (k : Nat → Option α) : Option α := @Int.rec (fun _ => Option α) (fun m => @Bool.rec (fun _ => Option α) none (k m) (Nat.ble (Nat.succ m) n)) (fun _ => none) i
theorem natK_eq {α : Type} {i : Int} {n : Nat} {k : Nat → Option α} {c : α} (e : natK i n k = some c) : 0 ≤ i ∧ i < n ∧ k i.toNat = some c := by
  cases i with
  | negSucc m => simp [natK] at e
  | ofNat m =>
    have e : @Bool.rec (fun _ => Option α) none (k m) (Nat.ble (Nat.succ m) n) = some c := e
    cases h : Nat.ble (Nat.succ m) n with
    | false => rw [h] at e; simp at e
    | true =>
      rw [h] at e
      have := Nat.le_of_ble_eq_true h
      refine ⟨by simp, ?_, e⟩
      simp only [Int.ofNat_eq_natCast]; omega
noncomputable def opIndexAddr (sz : Nat) (d : DF) (x ix : AV) (s : SS) (h : Heap) : Option (SS × Heap) := AV.casesOn (motive_1 := fun _ => Option (SS × Heap)) x (fun _ _ => none) (fun _ => none) (fun _ => none) (fun _ => none) (fun a n _ z => AV.casesOn (motive_1 := fun _ => Option (SS × Heap)) ix (fun _ i => obP a fun b o => natK i n fun m => @Bool.rec (fun _ => Option (SS × Heap)) none (some (d (.ptr (some (b, Nat.add o (Nat.mul m sz)))) s, h)) (Nat.beq z sz)) (fun _ => none) (fun _ => none) (fun _ => none) (fun _ _ _ _ => none) (fun _ => none) (fun _ _ => none) (none) (fun _ _ => none) (none) (fun _ => none) (fun _ => none)) (fun _ => none) (fun _ _ => none) (none) (fun _ _ => none) (none) (fun _ => none) (fun _ => none)
noncomputable def opExtract (i : Nat) (d : DF) (x : AV) (s : SS) (h : Heap) : Option (SS × Heap) := AV.casesOn (motive_1 := fun _ => Option (SS × Heap)) x (fun _ _ => none) (fun _ => none) (fun _ => none) (fun _ => none) (fun _ _ _ _ => none) (fun _ => none) (fun _ _ => none) (none) (fun _ _ => none) (none) (fun _ => none) (fun vs => finV d s h (nthK vs i))
noncomputable def opPick (d : DF) (c a b : AV) (s : SS) (h : Heap) : Option (SS × Heap) := AV.casesOn (motive_1 := fun _ => Option (SS × Heap)) c (fun _ _ => none) (fun x => some (d (@Bool.rec (fun _ => AV) b a x) s, h)) (fun _ => none) (fun _ => none) (fun _ _ _ _ => none) (fun _ => none) (fun _ _ => none) (none) (fun _ _ => none) (none) (fun _ => none) (fun _ => none)
noncomputable def opAny (T : TT) (op : Op) (d : DF) (s : SS) (h : Heap) : Option (SS × Heap) := finX d s (opA T (evX s) op h)

noncomputable def wE (x : Operand) (k : (SS → AV) → Bx) : Bx := @EB.rec (fun _ => Bx) (fun ok f => @Bool.rec (fun _ => Bx) bad (k f) ok) (mkE x)
theorem wE_eq (x : Operand) (k : (SS → AV) → Bx) : wE x k = if (mkE x).ok then k (mkE x).f else bad := by
  unfold wE; cases mkE x with | mk ok f => cases ok <;> rfl
theorem wE_run {x : Operand} {k : (SS → AV) → Bx} {pf pr : CallT} {s : SS} {h : Heap} {r : SS × Heap} (e : (wE x k).run pf pr s h = some r) : evX s x = some ((mkE x).f s) ∧ (k (mkE x).f).run pf pr s h = some r := by
  rw [wE_eq] at e
  split at e
  · rename_i hx
    exact ⟨by simp [evX, hx], e⟩
  · simp [bad] at e

/-- An operation, made ready. -/
noncomputable def opBx (T : TT) (op : Op) (d : DF) : Bx := match op with
  | .move x => wE x fun f => ⟨fun _ _ s h => some (d (f s) s, h)⟩
  | .assign x => wE x fun f => ⟨fun _ _ s h => some (d (f s) s, h)⟩
  | .load t x => wE x fun f => @LF.rec (fun _ => Bx) (fun l => ⟨fun _ _ s h => opLoad l d (f s) s h⟩) (loadF T t)
  | .store t x y => wE x fun f => wE y fun g => @SF.rec (fun _ => Bx) (fun l => ⟨fun _ _ s h => opStore l d (f s) (g s) s h⟩) (storeF T t)
  | .binOp op t x y _ => wE x fun f => wE y fun g => @BF.rec (fun _ => Bx) (fun l => ⟨fun _ _ s h => finV d s h (l (f s) (g s))⟩) (binF T op t)
  | .unOp op _ x => wE x fun f => ⟨fun _ _ s h => finV d s h (unOpA op (f s))⟩
  | .pick c a b => wE c fun f => wE a fun g => wE b fun l => ⟨fun _ _ s h => opPick d (f s) (g s) (l s) s h⟩
  | .extract x i => wE x fun f => ⟨fun _ _ s h => opExtract i d (f s) s h⟩
  | .fieldAddr t x f => (match fieldOff T t f with
    | some (ft, off) => (match T ft with
      | some fi => if fi.size = 0 then bad else wE x fun f => ⟨fun _ _ s h => opFieldAddr off d (f s) s h⟩
      | none => bad)
    | none => bad)
  | .indexAddr t x ix => (match T t with
    | some ti => (match ti.kind with
      | .slc e => (match T e with
        | some te => wE x fun f => wE ix fun g => ⟨fun _ _ s h => opIndexAddr te.size d (f s) (g s) s h⟩
        | none => bad)
      | _ => ⟨fun _ _ s h => opAny T (.indexAddr t x ix) d s h⟩)
    | none => bad)
  | op => ⟨fun _ _ s h => opAny T op d s h⟩

theorem opBx_ok {op : Op} {d : DF} {pf pr : CallT} {s : SS} {h : Heap} {r : SS × Heap} (e : (opBx T op d).run pf pr s h = some r) : ∃ v h', opA T (evX s) op h = some (v, h') ∧ r = (d v s, h') := by
  have fin : ∀ {o : Option AV}, finV d s h o = some r → ∃ v, o = some v ∧ r = (d v s, h) := by
    intro o e
    obtain ⟨v, rfl, e2⟩ := ob_eq e
    simp only [Option.some.injEq] at e2
    exact ⟨v, rfl, e2.symm⟩
  have any : ∀ {op : Op}, opAny T op d s h = some r → ∃ v h', opA T (evX s) op h = some (v, h') ∧ r = (d v s, h') := by
    intro op e
    obtain ⟨v, h', e1, e2⟩ := obP_eq e
    simp only [Option.some.injEq] at e2
    exact ⟨v, h', e1, e2.symm⟩
  unfold opBx at e
  split at e
  · obtain ⟨hx, e⟩ := wE_run e
    simp only [Option.some.injEq] at e
    exact ⟨_, _, by simp only [opA, hx], e.symm⟩
  · obtain ⟨hx, e⟩ := wE_run e
    simp only [Option.some.injEq] at e
    exact ⟨_, _, by simp only [opA, hx], e.symm⟩
  · rename_i t x
    obtain ⟨hx, e⟩ := wE_run e
    generalize hl : loadF T t = lf at e
    obtain ⟨l⟩ := lf
    have hl : ∀ h b o, l h b o = loadVar T h t b o := fun h b o => by rw [← loadF_eq, hl]
    have e : opLoad l d ((mkE x).f s) s h = some r := e
    generalize (mkE x).f s = xv at *
    cases xv with
    | ptr a =>
      obtain ⟨b, o, rfl, e2⟩ := obP_eq (show obP a (fun b o => finV d s h (l h b o)) = some r from e)
      obtain ⟨v, e3, e4⟩ := fin e2
      rw [hl] at e3
      exact ⟨v, h, by simp only [opA, hx, e3], e4⟩
    | _ => simp [opLoad] at e
  · rename_i t x y
    obtain ⟨hx, e⟩ := wE_run e
    obtain ⟨hy, e⟩ := wE_run e
    generalize hl : storeF T t = lf at e
    obtain ⟨l⟩ := lf
    have hl : ∀ {h b o v h'}, l h b o v = some h' → storeVar T h t b o v = some h' := fun {h b o v h'} e => storeF_eq (by rw [hl]; exact e)
    have e : opStore l d ((mkE x).f s) ((mkE y).f s) s h = some r := e
    generalize (mkE x).f s = xv at *
    cases xv with
    | ptr a =>
      obtain ⟨b, o, rfl, e2⟩ := obP_eq (show obP a (fun b o => ob (l h b o ((mkE y).f s)) fun h' => some (d undefA s, h')) = some r from e)
      obtain ⟨h1, e3, e4⟩ := ob_eq e2
      simp only [Option.some.injEq] at e4
      have e3 := hl e3
      exact ⟨undefA, h1, by simp only [opA, hx, hy, e3], e4.symm⟩
    | _ => simp [opStore] at e
  · rename_i op t x y _
    obtain ⟨hx, e⟩ := wE_run e
    obtain ⟨hy, e⟩ := wE_run e
    generalize hl : binF T op t = lf at e
    obtain ⟨l⟩ := lf
    obtain ⟨v, e3, e4⟩ := fin (show finV d s h (l ((mkE x).f s) ((mkE y).f s)) = some r from e)
    have e3 : (binF T op t).f ((mkE x).f s) ((mkE y).f s) = some v := by rw [hl]; exact e3
    rw [binF_eq] at e3
    exact ⟨v, h, by simp only [opA, hx, hy, e3], e4⟩
  · obtain ⟨hx, e⟩ := wE_run e
    obtain ⟨v, e3, e4⟩ := fin e
    exact ⟨v, h, by simp only [opA, hx, e3], e4⟩
  · rename_i c a b
    obtain ⟨hx, e⟩ := wE_run e
    obtain ⟨hy, e⟩ := wE_run e
    obtain ⟨hz, e⟩ := wE_run e
    have e : opPick d ((mkE c).f s) ((mkE a).f s) ((mkE b).f s) s h = some r := e
    generalize (mkE c).f s = xv at *
    cases xv with
    | bool x =>
      have e : some (d (@Bool.rec (fun _ => AV) ((mkE b).f s) ((mkE a).f s) x) s, h) = some r := e
      simp only [Option.some.injEq] at e
      cases x with
      | true => exact ⟨_, h, by simp only [opA, hx, hy], e.symm⟩
      | false => exact ⟨_, h, by simp only [opA, hx, hz], e.symm⟩
    | _ => simp [opPick] at e
  · rename_i x i
    obtain ⟨hx, e⟩ := wE_run e
    have e : opExtract i d ((mkE x).f s) s h = some r := e
    generalize (mkE x).f s = xv at *
    cases xv with
    | tup vs =>
      obtain ⟨v, e3, e4⟩ := fin (show finV d s h (nthK vs i) = some r from e)
      rw [nthK_eq] at e3
      exact ⟨v, h, by simp only [opA, hx, e3], e4⟩
    | _ => simp [opExtract] at e
  · rename_i t x f
    unfold fieldOff at e
    split at e
    · rename_i ft off hfo
      split at hfo
      · rename_i ti hti
        split at hfo
        · rename_i fs hk
          split at hfo
          · rename_i bl ft' off' hfs
            simp only [Option.some.injEq, Prod.mk.injEq] at hfo
            obtain ⟨rfl, rfl⟩ := hfo
            split at e
            · rename_i fi hfi
              split at e
              · simp [bad] at e
              · rename_i hsz
                obtain ⟨hx, e⟩ := wE_run e
                have e : opFieldAddr off' d ((mkE x).f s) s h = some r := e
                generalize (mkE x).f s = xv at *
                cases xv with
                | ptr a =>
                  obtain ⟨b, o, rfl, e2⟩ := obP_eq (show obP a (fun b o => some (d (.ptr (some (b, Nat.add o off'))) s, h)) = some r from e)
                  simp only [Option.some.injEq] at e2
                  exact ⟨_, h, by simp only [opA, hti, hx, hk, hfs, hfi, hsz, if_false]; rfl, e2.symm⟩
                | _ => simp [opFieldAddr] at e
            · simp [bad] at e
          · simp at hfo
        · simp at hfo
      · simp at hfo
    · simp [bad] at e
  · rename_i t x ix
    split at e
    · rename_i ti hti
      split at e
      · rename_i el hk
        split at e
        · rename_i te hte
          obtain ⟨hx, e⟩ := wE_run e
          obtain ⟨hy, e⟩ := wE_run e
          have e : opIndexAddr te.size d ((mkE x).f s) ((mkE ix).f s) s h = some r := e
          generalize (mkE x).f s = xv at *
          generalize (mkE ix).f s = iv at *
          cases xv with
          | slc a n c z =>
            cases iv with
            | int k i =>
              obtain ⟨b, o, rfl, e2⟩ := obP_eq (show obP a (fun b o => natK i n fun m => @Bool.rec (fun _ => Option (SS × Heap)) none (some (d (.ptr (some (b, Nat.add o (Nat.mul m te.size)))) s, h)) (Nat.beq z te.size)) = some r from e)
              obtain ⟨h1, h2, e3⟩ := natK_eq e2
              cases hz : Nat.beq z te.size with
              | false => rw [hz] at e3; simp at e3
              | true =>
                rw [hz] at e3
                have e3 : some (d (.ptr (some (b, o + i.toNat * te.size))) s, h) = some r := e3
                simp only [Option.some.injEq] at e3
                have hz := Nat.eq_of_beq_eq_true hz
                exact ⟨_, h, by simp only [opA, hti, hx, hy, hk, hte, h1, h2, hz, and_self, if_true], e3.symm⟩
            | _ => simp [opIndexAddr] at e
          | _ => simp [opIndexAddr] at e
        · simp [bad] at e
      · exact any e
    · simp [bad] at e
  · exact any e

/-- A call, carried out. -/
noncomputable def callR (F : Nat → Option Func) (pf pr : CallT) (fv : AV) (l : List AV) (h : Heap) : Option (AV × Heap) := match fv with
  | .func (.func g) caps => (match externO F g (l ++ caps) with | some v => some (v, h) | none => pf g (l ++ caps) h)
  | .func (.yield b) _ => pr b l h
  | _ => none
noncomputable def rawBx (T : TT) (F : Nat → Option Func) (op : Op) (d : DF) : Bx := match op with
  | .call { callee := .value f, args, .. } => (match mkEs args.toList with
    | some g => wE f fun f => ⟨fun pf pr s h => finX d s (callR F pf pr (f s) (g s) h)⟩
    | none => bad)
  | op => opBx T op d
noncomputable def opGuard (run : CallT → CallT → SS → Heap → Option (SS × Heap)) (v : AV) (want : Bool) (d : DF) (pf pr : CallT) (s : SS) (h : Heap) : Option (SS × Heap) := AV.casesOn (motive_1 := fun _ => Option (SS × Heap)) v (fun _ _ => some (d undefA s, h)) (fun x => @Bool.rec (fun _ => Option (SS × Heap)) (some (d undefA s, h)) (run pf pr s h) (x == want)) (fun _ => some (d undefA s, h)) (fun _ => some (d undefA s, h)) (fun _ _ _ _ => some (d undefA s, h)) (fun _ => some (d undefA s, h)) (fun _ _ => some (d undefA s, h)) (some (d undefA s, h)) (fun _ _ => some (d undefA s, h)) (some (d undefA s, h)) (fun _ => some (d undefA s, h)) (fun _ => some (d undefA s, h))
noncomputable def mkBx (T : TT) (F : Nat → Option Func) (n : Nat) (all : List Oper) (o : Oper) : Bx := @DB.rec (fun _ => Bx) (fun d => match o.guard with
  | none => rawBx T F o.op d
  | some (j, want) => (match all[j]? with
    | some g => (match g.dst with
      | some e => if e < 512 then @Bx.rec (fun _ => Bx) (fun run => @GB.rec 3 (fun _ => Bx) (fun g => ⟨fun pf pr s h => opGuard run (g s) want d pf pr s h⟩) (mkG 3 e)) (rawBx T F o.op d) else bad
      | none => bad)
    | none => bad)) (mkD n o.dst)

noncomputable def runL (pf pr : CallT) (l : List Bx) : SS → Heap → Option (SS × Heap) := List.rec (motive := fun _ => SS → Heap → Option (SS × Heap)) (fun s h => some (s, h))
  (fun b _ ih s h => obP (@Bx.rec (fun _ => Option (SS × Heap)) (fun run => run pf pr s h) b) ih) l

structure Fx where
  s : SS
  ms : List Nat
  h : Heap

structure LvX where
  c : Nat → Nat → Option Nat → Code → Fx → Option (AE × Fx)
  f : CallT
  r : CallT

/-! regions whose order is drawn -/
structure DSx where
  ss : List SS
  s : SS
  hs : List (Nat × Heap)
  msk : Nat
  h : Heap
  nb : List (Nat × Blk)
noncomputable def DSx.toD (n : Nat) (st : DSx) : DSt := ⟨st.ss.map (toL n), toL n st.s, st.hs, st.msk, st.h, st.nb⟩

noncomputable def wantedX (o : Oper) (ops : List Oper) (s : SS) : Bool :=
  match o.guard with
  | none => true
  | some (j, want) => match ops[j]? with
    | some g => (match g.dst with
      | some d => if d < 512 then (match (mkG 3 d).f s with | .bool b => b == want | _ => false) else false
      | none => false)
    | none => false

noncomputable def dsX (T : TT) (F : Nat → Option Func) (pf pr : CallT) (n : Nat) (all : List Oper) (bf : List Nat) (base : Nat) (l : List Oper) : Nat → DSx → Option DSx := List.rec (motive := fun _ => Nat → DSx → Option DSx) (fun _ st => some st)
  (fun o _ ih i st => match dkind T o.op with
    | .eff => obP ((mkBx T F n all o).run pf pr st.s (heapFor base st.nb (bf.getD i 0) st.msk st.h)) fun s1 h1 =>
      ih (i + 1) { ss := st.ss ++ [st.s], s := s1, hs := st.hs ++ [(st.msk, st.h)], msk := st.msk ||| bf.getD i 0, h := h1, nb := st.nb }
    | .new =>
      if wantedX o all st.s then obP (allocA T (evX st.s) o.op (base + i)) fun v b => ih (i + 1) { st with ss := st.ss ++ [st.s], s := (mkD n o.dst).f v st.s, nb := st.nb ++ [(i, b)] }
      else ih (i + 1) { st with ss := st.ss ++ [st.s], s := (mkD n o.dst).f undefA st.s }
    | .quiet =>
      if wantedX o all st.s then obP (opA T (evX st.s) o.op (heapFor base st.nb (bf.getD i 0) st.msk st.h)) fun v _ => ih (i + 1) { st with ss := st.ss ++ [st.s], s := (mkD n o.dst).f v st.s }
      else ih (i + 1) { st with ss := st.ss ++ [st.s], s := (mkD n o.dst).f undefA st.s }
    | .no => none) l

noncomputable def sameVX (r : Option (AV × Heap)) (n : Nat) (dst : Option Nat) (s' : SS) : Bool :=
  match r with
  | some (v, _) => (match dst with
    | none => true
    | some d => if d < n then AV.eqb v ((mkG 3 d).f s') else true)
  | none => false

noncomputable def drawChkX (T : TT) (ops : List Oper) (base n : Nat) (st : DSx) : Bool :=
  let bf := befores ops []
  let es := (List.range ops.length).filter fun i => (match ops[i]? with | some o => dkind T o.op == .eff | none => false)
  let all := st.hs ++ [(st.msk, st.h)]
  let ss := st.ss ++ [st.s]
  es.isEmpty || ops.zipIdx.all fun (o, i) => dkind T o.op != .quiet || !wantedX o ops (ss.getD i (und 3)) ||
    all.zipIdx.all fun (q, k) => q.1.testBit i || (match es[k]? with | some e => (bf.getD i 0).testBit e | none => false) ||
      sameVX (opA T (evX (ss.getD i (und 3))) o.op (heapFor base st.nb (bf.getD i 0) q.1 q.2)) n o.dst (ss.getD (i + 1) (und 3))

noncomputable def regionX (T : TT) (F : Nat → Option Func) (p : LvX) (n : Nat) (ops : Array Oper) (draw : Bool) (f : Fx) : Option (AE × Fx) := match draw with
  | false => obP (runL p.f p.r (ops.toList.map (mkBx T F n ops.toList)) f.s f.h) fun s h => some (.normal, ⟨s, f.ms, h⟩)
  | true => (match quietOk T ops with
    | true => obP (runL p.f p.r (ops.toList.map (mkBx T F n ops.toList)) f.s (f.h.bump ops.size)) fun s h => some (.normal, ⟨s, f.ms, h⟩)
    | false => (match drawOk T ops with
      | true => ob (dsX T F p.f p.r n ops.toList (befores ops.toList []) f.h.nxt ops.toList 0 ⟨[], f.s, [], 0, ⟨f.h.nxt + ops.size, f.h.l⟩, []⟩) fun st =>
        if drawChkX T ops.toList f.h.nxt n st then some (.normal, ⟨st.s, f.ms, putsA f.h.nxt (st.nb.filter fun p => !st.msk.testBit p.1) st.h⟩) else none
      | false => none))

noncomputable def condX (v : AV) (a b : Fx → Option (AE × Fx)) (f : Fx) : Option (AE × Fx) := match v with
  | .bool x => Bool.rec (b f) (a f) x
  | _ => none
def seqX (r : Option (AE × Fx)) (b : Fx → Option (AE × Fx)) : Option (AE × Fx) := match r with
  | some (.normal, f) => b f
  | r => r
def blockX (id : Nat) (r : Option (AE × Fx)) : Option (AE × Fx) := match r with
  | some (.exit i, f) => if i = id then some (.normal, f) else some (.exit i, f)
  | r => r

noncomputable def rangeX (p : LvX) (fn n : Nat) (ro : Option Nat) (g : Operand) (ps : Array Tmp) (assign body : Code) (f : Fx) : Option (AE × Fx) :=
  match evX f.s g with
  | some (.func (.func k) caps) =>
    (match enterA ro ⟨[], f.ms, f.h⟩ with
    | none => none
    | some (df, ms, h) =>
      let l := h.nxt
      match p.f k (.func (.yield l) [] :: caps) (h.add (.loop { state := .ready, pending := none, fn := fn, tmps := toL n f.s, params := ps.toList, assign, body, defers := df })) with
      | none => none
      | some (_, h2) =>
        match h2.get l with
        | some (.loop r) =>
          if r.state = .busy then none else
          (match r.pending with
          | none => some (.normal, ⟨f.s, ms, h2.put l (.loop { r with state := .exhausted })⟩)
          | some .ret => some (.ret, ⟨f.s, ms, h2.put l (.loop { r with state := .exhausted })⟩)
          | some (.exit id) => some (.exit id, ⟨f.s, ms, h2.put l (.loop { r with state := .exhausted })⟩)
          | some _ => none)
        | _ => none)
  | _ => none

noncomputable def cX (T : TT) (F : Nat → Option Func) (p : LvX) (fn n : Nat) (ro : Option Nat) (c : Code) : Fx → Option (AE × Fx) :=
  Code.rec (motive := fun _ => Fx → Option (AE × Fx))
    (fun f => some (.normal, f))
    (fun _ ops draw f => regionX T F p n ops draw f)
    (fun _ _ iha ihb f => seqX (iha f) ihb)
    (fun x _ _ iha ihb f => ob (evX f.s x) fun v => condX v iha ihb f)
    (fun id _ ih f => blockX id (ih f))
    (fun b ih f => seqX (ih f) (fun f1 => p.c fn n ro (.loop b) f1))
    (fun g ps a b _ _ f => rangeX p fn n ro g ps a b f)
    (fun id f => some (.exit id, f))
    (fun _ ih f => ih f)
    (fun _ f => some (.normal, f))
    (fun _ _ => none)
    (fun f => some (.ret, f))
    (fun _ _ => none) c

noncomputable def resX (T : TT) (h : Heap) (s : SS) : List ResultVar → Option (List AV)
  | [] => some []
  | .tmp t :: l => if t < 512 then (match resX T h s l with | some m => some ((mkG 3 t).f s :: m) | none => none) else none
  | .cell a t :: l => if a < 512 then (match (mkG 3 a).f s with
    | .ptr (some (b, o)) => (match loadVar T h t b o, resX T h s l with | some v, some m => some (v :: m) | _, _ => none)
    | _ => none) else none

noncomputable def endX (T : TT) (res : List ResultVar) (f1 : Fx) : Option (AV × Heap) := match takeMarks f1.ms f1.h with
  | none => none
  | some h2 => match resX T h2 f1.s res with
    | some [v] => some (v, h2)
    | some l => some (.tup l, h2)
    | none => none

noncomputable def ofX : List AV → Nat → SS → SS
  | [], _, t => t
  | v :: l, i, t => ofX l (i + 1) ((mkS 3 i).f v t)

noncomputable def fX (T : TT) (F : Nat → Option Func) (p : LvX) (f : Nat) (args : List AV) (h : Heap) : Option (AV × Heap) := match F f with
  | none => none
  | some fn => match fn.body with
    | none => none
    | some c => if args.length ≤ fn.ntmps ∧ fn.ntmps ≤ 512 then (match cX T F p f fn.ntmps none c ⟨ofX args 0 (und 3), [], h⟩ with
      | some (.exit _, _) => none
      | none => none
      | some (_, f1) => endX T fn.results.toList f1) else none

noncomputable def rX (T : TT) (F : Nat → Option Func) (p : LvX) (l : Nat) (args : List AV) (h : Heap) : Option (AV × Heap) := match h.get l with
  | some (.loop r) => (match F r.fn with
    | some fn =>
      if args.length ≠ r.params.length ∨ r.tmps.length ≠ fn.ntmps ∨ 512 < fn.ntmps then none else
      (match cX T F p r.fn fn.ntmps (some l) r.assign ⟨ofX (setAll r.tmps r.params args) 0 (und 3), [], h⟩ with
      | some (.normal, f1) =>
        (match f1.h.get l with
        | some (.loop r1) =>
          if r1.state ≠ .ready ∨ f1.ms ≠ [] then none else
          (match cX T F p r.fn fn.ntmps (some l) r.body ⟨f1.s, f1.ms, f1.h.put l (.loop { r1 with state := .busy })⟩ with
          | some (e, f2) =>
            (match f2.h.get l with
            | some (.loop r2) =>
              if f2.ms ≠ [] then none else
              (match e with
              | .normal => some (.bool true, f2.h.put l (.loop { r2 with state := .ready, pending := none }))
              | .ret => some (.bool false, f2.h.put l (.loop { r2 with state := .done, pending := some .ret }))
              | .exit id => some (.bool false, f2.h.put l (.loop { r2 with state := .done, pending := some (.exit id) })))
            | _ => none)
          | none => none)
        | _ => none)
      | _ => none)
    | none => none)
  | _ => none

def lvx0 : LvX := ⟨fun _ _ _ _ _ => none, fun _ _ _ => none, fun _ _ _ => none⟩
noncomputable def lvxS (T : TT) (F : Nat → Option Func) (p : LvX) : LvX := ⟨cX T F p, fX T F p, rX T F p⟩
noncomputable def lvx (T : TT) (F : Nat → Option Func) (n : Nat) : LvX := Nat.rec lvx0 (fun _ p => lvxS T F p) n

end Go.Am
