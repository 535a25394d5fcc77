/-
  The abstract machine: on a heap that holds more, and lets more be written, an operation tells the same.
-/
import Derived.Test.YtaockkmmjinhpaaAmWd
namespace Go.Am
variable {T : TT} {F : Nat → Option Func}

/-- A block, and one that holds the same and may at most be written besides. -/
def Blk.le : Blk → Blk → Prop
  | .cells cs w, y => ∃ w', y = .cells cs w' ∧ (w = true → w' = true)
  | x, y => y = x
theorem Blk.le_refl : ∀ x : Blk, x.le x
  | .cells cs w => ⟨w, rfl, id⟩
  | .map _ _ => rfl
  | .loop _ => rfl
  | .defers _ => rfl
theorem Blk.le_trans : ∀ {x y z : Blk}, x.le y → y.le z → x.le z
  | .cells cs w, _, _, ⟨w', rfl, h⟩, ⟨w2, e, h2⟩ => ⟨w2, e, fun k => h2 (h k)⟩
  | .map _ _, _, _, rfl, h => h
  | .loop _, _, _, rfl, h => h
  | .defers _, _, _, rfl, h => h

/-- A heap and a greater one. -/
structure Le (h1 h2 : Heap) : Prop where
  nxt : h2.nxt = h1.nxt
  has : ∀ b x, h1.get b = some x → ∃ y, h2.get b = some y ∧ x.le y

variable {h1 h2 : Heap}
theorem Le.refl (h : Heap) : Le h h := ⟨rfl, fun _ x e => ⟨x, e, x.le_refl⟩⟩
theorem Le.trans {a b c : Heap} (x : Le a b) (y : Le b c) : Le a c := ⟨y.nxt.trans x.nxt, fun k v e => by
  obtain ⟨v2, e2, l2⟩ := x.has k v e
  obtain ⟨v3, e3, l3⟩ := y.has k v2 e2
  exact ⟨v3, e3, Blk.le_trans l2 l3⟩⟩
theorem Le.hasC (R : Le h1 h2) {b : Nat} {cs : List AV} {w : Bool} (e : h1.get b = some (.cells cs w)) : ∃ w', h2.get b = some (.cells cs w') := by
  obtain ⟨y, e2, w', rfl, _⟩ := R.has _ _ e; exact ⟨w', e2⟩
theorem Le.hasT (R : Le h1 h2) {b : Nat} {cs : List AV} (e : h1.get b = some (.cells cs true)) : h2.get b = some (.cells cs true) := by
  obtain ⟨y, e2, w', rfl, hw⟩ := R.has _ _ e; rw [e2, hw rfl]
theorem Le.hasM (R : Le h1 h2) {b : Nat} {es : List (AV × AV × Nat)} {c : Nat} (e : h1.get b = some (.map es c)) : h2.get b = some (.map es c) := by
  obtain ⟨y, e2, rfl⟩ := R.has _ _ e; exact e2
theorem Le.hasL (R : Le h1 h2) {b : Nat} {r : LoopR} (e : h1.get b = some (.loop r)) : h2.get b = some (.loop r) := by
  obtain ⟨y, e2, rfl⟩ := R.has _ _ e; exact e2
theorem Le.hasD (R : Le h1 h2) {b : Nat} {d : Bool} (e : h1.get b = some (.defers d)) : h2.get b = some (.defers d) := by
  obtain ⟨y, e2, rfl⟩ := R.has _ _ e; exact e2

theorem Le.put (R : Le h1 h2) (b : Nat) (x : Blk) : Le (h1.put b x) (h2.put b x) := by
  refine ⟨R.nxt, fun c y e => ?_⟩
  rw [Heap.get_put] at e ⊢
  split <;> rename_i h
  · rw [if_pos h] at e; exact ⟨y, e, y.le_refl⟩
  · rw [if_neg h] at e; exact R.has _ _ e
theorem Le.del (R : Le h1 h2) (b : Nat) : Le (h1.del b) (h2.del b) := by
  refine ⟨R.nxt, fun c y e => ?_⟩
  rw [Heap.get_del] at e ⊢
  split <;> rename_i h
  · rw [if_pos h] at e; cases e
  · rw [if_neg h] at e; exact R.has _ _ e
theorem Le.add (R : Le h1 h2) (x : Blk) : Le (h1.add x) (h2.add x) := by
  refine ⟨by rw [Heap.add_nxt, Heap.add_nxt, R.nxt], fun c y e => ?_⟩
  rw [Heap.get_add] at e ⊢
  rw [R.nxt]
  split <;> rename_i h
  · rw [if_pos h] at e; exact ⟨y, e, y.le_refl⟩
  · rw [if_neg h] at e; exact R.has _ _ e
theorem Le.bump (R : Le h1 h2) (n : Nat) : Le (h1.bump n) (h2.bump n) :=
  ⟨by rw [bump_nxt, bump_nxt, R.nxt], fun b x e => R.has b x e⟩

theorem Le.cells (R : Le h1 h2) {b o n : Nat} {l : List AV} (e : loadCells h1 b o n = some l) : loadCells h2 b o n = some l := by
  unfold loadCells at e ⊢
  split at e
  · rename_i cs w hb
    obtain ⟨w', hw'⟩ := R.hasC hb
    rw [hw']
    exact e
  · simp at e
theorem Le.load (R : Le h1 h2) {t b o : Nat} {v : AV} (e : loadVar T h1 t b o = some v) : loadVar T h2 t b o = some v := by
  unfold loadVar at e ⊢
  split at e
  · rename_i ti ht
    split at e
    · rename_i ha
      rw [if_pos ha]
      split at e
      · rename_i l hl
        rw [R.cells hl]; exact e
      · simp at e
    · rename_i ha
      rw [if_neg ha]
      split at e
      · rename_i cs w hb
        obtain ⟨w', hw'⟩ := R.hasC hb
        rw [hw']; exact e
      · simp at e
  · simp at e
theorem Le.storeCells (R : Le h1 h2) {b o : Nat} {vs : List AV} {h1' : Heap} (e : storeCells h1 b o vs = some h1') : ∃ h2', Am.storeCells h2 b o vs = some h2' ∧ Le h1' h2' := by
  unfold Am.storeCells at e ⊢
  split at e
  · rename_i cs hb
    rw [R.hasT hb]
    simp only
    split at e
    · rename_i hc
      rw [if_pos hc]
      simp only [Option.some.injEq] at e
      subst e
      exact ⟨_, rfl, R.put _ _⟩
    · simp at e
  · simp at e
theorem Le.store (R : Le h1 h2) {t b o : Nat} {v : AV} {h1' : Heap} (e : storeVar T h1 t b o v = some h1') : ∃ h2', storeVar T h2 t b o v = some h2' ∧ Le h1' h2' := by
  unfold storeVar at e ⊢
  split at e
  · split at e
    · rename_i hc
      rw [if_pos hc]
      exact R.storeCells e
    · simp at e
  · simp at e

theorem Le.comes (R : Le h1 h2) {n : Nat} {x : AV} {r : Nat × List AV} (e : comes n x h1 = some r) : comes n x h2 = some r := by
  unfold Am.comes at e ⊢
  split at e
  · rename_i b o k c sz
    split at e
    · simp at e
    · rename_i h1
      rw [if_neg h1]
      split at e
      · rename_i h2
        rw [if_pos h2]; exact e
      · rename_i h2
        rw [if_neg h2]
        split at e
        · rename_i l hl
          rw [R.cells hl]; exact e
        · simp at e
  · exact e
  · exact e
  · simp at e

theorem Le.some1 (R : Le h1 h2) {v : AV} {h1' : Heap} {w : AV} (e : some (w, h1) = some (v, h1')) : ∃ h2', some (w, h2) = some (v, h2') ∧ Le h1' h2' := by
  simp only [Option.some.injEq, Prod.mk.injEq] at e
  obtain ⟨rfl, rfl⟩ := e
  exact ⟨h2, rfl, R⟩
theorem Le.some2 (R : Le h1 h2) {v : AV} {h1' : Heap} {w : Nat → AV} {x : Blk} (e : some (w h1.nxt, h1.add x) = some (v, h1')) : ∃ h2', some (w h2.nxt, h2.add x) = some (v, h2') ∧ Le h1' h2' := by
  simp only [Option.some.injEq, Prod.mk.injEq] at e
  obtain ⟨rfl, rfl⟩ := e
  exact ⟨_, by rw [R.nxt], R.add x⟩
theorem Le.some3 (R : Le h1 h2) {v : AV} {h1' : Heap} {w : Nat → AV} {b : Nat} {y x : Blk} (hb : h1.get b = some y) (e : some (w h1.nxt, (h1.del b).add x) = some (v, h1')) : ∃ h2', some (w h2.nxt, (h2.del b).add x) = some (v, h2') ∧ Le h1' h2' := by
  simp only [Option.some.injEq, Prod.mk.injEq] at e
  obtain ⟨rfl, rfl⟩ := e
  exact ⟨_, by rw [R.nxt], (R.del b).add x⟩

theorem Le.appendZ (R : Le h1 h2) {t : Nat} {s x v : AV} {h1' : Heap} (e : appendZ T t s x h1 = some (v, h1')) : ∃ h2', Am.appendZ T t s x h2 = some (v, h2') ∧ Le h1' h2' := by
  unfold Am.appendZ at e ⊢
  split at e
  · rename_i ti base sz kd m hT
    split at e
    · rename_i el hk
      try simp only [hT, hk]
      split at e
      · simp at e
      · rename_i te hte
        try simp only [hte]
        split at e
        · simp at e
        · rename_i c1
          rw [if_neg c1]
          split at e
          · rename_i c2
            rw [if_pos c2]; exact R.some1 e
          · rename_i c2
            rw [if_neg c2]
            split at e
            · rename_i c3
              rw [if_pos c3]
              exact R.some2 (w := fun k => .slc (some (k, 0)) m.toNat none te.size) e
            · simp at e
    · simp at e
  · simp at e

theorem Le.appendA (R : Le h1 h2) {t : Nat} {s x v : AV} {h1' : Heap} (e : appendA T t s x h1 = some (v, h1')) : ∃ h2', Am.appendA T t s x h2 = some (v, h2') ∧ Le h1' h2' := by
  unfold Am.appendA at e ⊢
  split at e
  · rename_i ti base n cap sz hT
    split at e
    · rename_i el hk
      try simp only [hT, hk]
      split at e
      · simp at e
      · rename_i te hte
        try simp only [hte]
        split at e
        · simp at e
        · rename_i c1
          rw [if_neg c1]
          split at e
          · simp at e
          · rename_i k new hc
            rw [R.comes hc]
            try simp only
            split at e
            · simp at e
            · rename_i c2
              rw [if_neg c2]
              split at e
              · rename_i c
                split at e
                · rename_i c3
                  try simp only [c3, if_true]
                  split at e
                  · split at e
                    · rename_i c4
                      try simp only [c4, if_true]
                      exact R.some1 e
                    · simp at e
                  · rename_i b o
                    split at e
                    · exact R.some1 e
                    · split at e
                      · rename_i h3 hs
                        obtain ⟨h4, e4, R4⟩ := R.storeCells hs
                        try simp only [e4]
                        exact R4.some1 e
                      · simp at e
                · rename_i c3
                  try simp only [c3, if_false]
                  split at e
                  · split at e
                    · rename_i c4
                      try simp only [c4, if_true]
                      exact R.some2 (w := fun m => .slc (some (m, 0)) k none te.size) e
                    · simp at e
                  · rename_i b o
                    try simp only
                    split at e
                    · rename_i c4
                      rw [if_pos c4]
                      exact R.some2 (w := fun m => .slc (some (m, 0)) k none te.size) e
                    · rename_i c4
                      rw [if_neg c4]
                      split at e
                      · rename_i old hl
                        rw [R.cells hl]
                        exact R.some2 (w := fun m => .slc (some (m, 0)) (n + k) none te.size) e
                      · simp at e
              · try simp only
                split at e
                · rename_i c3
                  rw [if_pos c3]
                  exact R.some1 e
                · rename_i c3
                  rw [if_neg c3]
                  split at e
                  · simp at e
                  · rename_i b o
                    try simp only
                    split at e
                    · rename_i cs hb
                      rw [R.hasT hb]
                      try simp only
                      split at e
                      · rename_i c4
                        rw [if_pos c4]
                        exact R.some3 (w := fun m => .slc (some (m, 0)) (n + k) none te.size) hb e
                      · simp at e
                    · simp at e
    · simp at e
  · simp at e

theorem Le.copyA (R : Le h1 h2) {t : Nat} {s x v : AV} {h1' : Heap} (e : copyA T t s x h1 = some (v, h1')) : ∃ h2', Am.copyA T t s x h2 = some (v, h2') ∧ Le h1' h2' := by
  unfold Am.copyA at e ⊢
  split at e
  · rename_i ti base n cap sz hT
    split at e
    · rename_i el hk
      try simp only [hT, hk]
      split at e
      · simp at e
      · rename_i te hte
        try simp only [hte]
        split at e
        · simp at e
        · rename_i k new hc
          rw [R.comes hc]
          try simp only at e ⊢
          split at e
          · simp at e
          · rename_i c1
            rw [if_neg c1]
            generalize new.take (min k n * te.size) = l at e ⊢
            cases l with
            | nil => exact R.some1 e
            | cons a l =>
              cases base with
              | none =>
                have e : (none : Option (AV × Heap)) = some (v, h1') := e
                cases e
              | some q =>
                obtain ⟨b, o⟩ := q
                try simp only at e ⊢
                split at e
                · rename_i h3 hs
                  obtain ⟨h4, e4, R4⟩ := R.storeCells hs
                  try simp only [e4]
                  exact R4.some1 e
                · simp at e
    · simp at e
  · simp at e

theorem Le.lenA (R : Le h1 h2) {t : Nat} {x v : AV} (e : lenA T t x h1 = some v) : Am.lenA T t x h2 = some v := by
  unfold Am.lenA at e ⊢
  split at e
  · simp at e
  · rename_i ti ht
    split at e
    all_goals first
      | (simp_all; done)
      | skip
    rename_i r hk
    try simp only [hk]
    split at e
    · rename_i es c hb
      rw [R.hasM hb]; exact e
    · simp at e

theorem Le.lookupA (R : Le h1 h2) {t : Nat} {x k v : AV} {ok : Bool} (e : lookupA T t x k ok h1 = some v) : Am.lookupA T t x k ok h2 = some v := by
  have key : ∀ es, entriesA x h1 = some es → entriesA x h2 = some es := by
    intro es he
    unfold entriesA at he ⊢
    split at he
    · exact he
    · rename_i r
      try simp only
      split at he
      · rename_i es' c hb
        rw [R.hasM hb]; exact he
      · simp at he
    · simp at he
  unfold Am.lookupA at e ⊢
  split at e
  · rename_i ki et es h1 h2
    rw [h1, key _ h2]; exact e
  · simp at e

theorem Le.mapUpdateA (R : Le h1 h2) {t : Nat} {m k x : AV} {h1' : Heap} (e : mapUpdateA T t m k x h1 = some h1') : ∃ h2', Am.mapUpdateA T t m k x h2 = some h2' ∧ Le h1' h2' := by
  unfold Am.mapUpdateA at e ⊢
  split at e
  · rename_i ki et r hm
    try simp only
    split at e
    · rename_i es c hb
      rw [R.hasM hb]
      try simp only
      split at e
      · rename_i i a b hf
        simp only [Option.some.injEq] at e
        subst e
        exact ⟨_, rfl, R.put _ _⟩
      · rename_i hf
        simp only [Option.some.injEq] at e
        subst e
        exact ⟨_, rfl, R.put _ _⟩
      · simp at e
    · simp at e
  · simp at e

theorem Le.convA (R : Le h1 h2) {a b : Nat} {x v : AV} {h1' : Heap} (e : convA T a b x h1 = some (v, h1')) : ∃ h2', Am.convA T a b x h2 = some (v, h2') ∧ Le h1' h2' := by
  unfold Am.convA at e ⊢
  split at e
  · rename_i s d hs hd
    try simp only [hs, hd]
    split at e
    · rename_i k kd n h3
      try simp only [h3]
      exact R.some1 e
    · rename_i l h3
      try simp only [h3]
      exact R.some1 e
    · rename_i el l h3
      try simp only [h3]
      split at e
      · rename_i te hte
        try simp only [hte]
        split at e
        · rename_i c1
          rw [if_pos c1]
          exact R.some2 (w := fun k => .slc (some (k, 0)) l.length none 1) e
        · simp at e
      · simp at e
    · rename_i el q n c sz h3 h4
      try simp only [h3, h4]
      split at e
      · rename_i te hte
        try simp only [hte]
        split at e
        · rename_i c1
          rw [if_pos c1]
          split at e
          · exact R.some1 e
          · rename_i b o
            try simp only
            split at e
            · rename_i c2
              rw [if_pos c2]
              exact R.some1 e
            · rename_i c2
              rw [if_neg c2]
              split at e
              · rename_i l hl
                rw [R.cells hl]
                try simp only
                split at e
                · rename_i m hm
                  try simp only [hm]
                  exact R.some1 e
                · simp at e
              · simp at e
        · simp at e
      · simp at e
    · simp at e
  · simp at e

theorem Le.makeSliceA (R : Le h1 h2) {t : Nat} {a b v : AV} {h1' : Heap} (e : makeSliceA T t a b h1 = some (v, h1')) : ∃ h2', Am.makeSliceA T t a b h2 = some (v, h2') ∧ Le h1' h2' := by
  unfold Am.makeSliceA at e ⊢
  split at e
  · rename_i ti k1 l k2 c hT
    try simp only [hT]
    split at e
    · rename_i el hk
      try simp only [hk]
      split at e
      · simp at e
      · rename_i te hte
        try simp only [hte]
        split at e
        · rename_i c1
          rw [if_pos c1]
          exact R.some2 (w := fun k => .slc (some (k, 0)) l.toNat (some c.toNat) te.size) e
        · simp at e
    · simp at e
  · simp at e

theorem Le.buildSliceA (R : Le h1 h2) {t n : Nat} {l : List (Nat × AV)} {v : AV} {h1' : Heap} (e : buildSliceA T t n l h1 = some (v, h1')) : ∃ h2', Am.buildSliceA T t n l h2 = some (v, h2') ∧ Le h1' h2' := by
  unfold Am.buildSliceA at e ⊢
  split at e
  · simp at e
  · rename_i ti hT
    split at e
    · rename_i el hk
      try simp only [hk]
      split at e
      · simp at e
      · rename_i te hte
        try simp only [hte]
        split at e
        · simp at e
        · rename_i c1
          rw [if_neg c1]
          split at e
          · rename_i cs hf
            try simp only [hf]
            exact R.some2 (w := fun k => .slc (some (k, 0)) n (some n) te.size) e
          · simp at e
    · simp at e

theorem Le.builtinA (R : Le h1 h2) {b : Builtin} {ts : List Nat} {l : List AV} {v : AV} {h1' : Heap} (e : builtinA T b ts l h1 = some (v, h1')) : ∃ h2', Am.builtinA T b ts l h2 = some (v, h2') ∧ Le h1' h2' := by
  unfold Am.builtinA at e ⊢
  split at e
  · rename_i t u us s x
    try simp only
    split at e
    · rename_i ui hu
      split at e
      · rename_i k hk
        (try simp only [hu, hk])
        exact R.appendZ e
      · rename_i hk
        try simp only [hu]
        exact R.appendA e
    · simp at e
  · exact R.copyA e
  · split at e
    · rename_i ti hT
      split at e
      · rename_i k hk
        (try simp only [hT, hk])
        exact R.some1 e
      · simp at e
    · simp at e
  · split at e
    · rename_i w hw
      (try simp only [R.lenA hw])
      exact R.some1 e
    · simp at e
  · split at e
    · rename_i w hw
      (try simp only [hw])
      exact R.some1 e
    · simp at e
  · split at e
    · rename_i w hw
      (try simp only [hw])
      exact R.some1 e
    · simp at e
  · simp at e


theorem opA_le (R : Le h1 h2) {ρ : Operand → Option AV} {op : Op} {v : AV} {h1' : Heap} (e : opA T ρ op h1 = some (v, h1')) : ∃ h2', opA T ρ op h2 = some (v, h2') ∧ Le h1' h2' := by
  have pure : pureOp T op = true → h1' = h1 → ∃ h2', opA T ρ op h2 = some (v, h2') ∧ Le h1' h2' := by
    intro hp hh
    subst hh
    exact ⟨h2, pure_any hp e h2, R⟩
  have same : pureOp T op = true → h1' = h1 := by
    intro hp
    have := pure_any hp e h1
    rw [e] at this
    simp only [Option.some.injEq, Prod.mk.injEq] at this
    exact this.2
  by_cases hp : pureOp T op = true
  · exact pure hp (same hp)
  clear pure same
  cases op with
  | alloc t =>
    simp only [opA] at e ⊢
    split at e
    · exact R.some2 (w := fun k => .ptr (some (k, 0))) e
    · simp at e
  | box t x =>
    simp only [opA] at e ⊢
    split at e
    · split at e
      · rename_i c1
        rw [if_pos c1]
        exact R.some2 (w := fun k => .ptr (some (k, 0))) e
      · simp at e
    · simp at e
  | buildSlice t n ps =>
    simp only [opA] at e ⊢
    split at e
    · exact R.buildSliceA e
    · simp at e
  | load t a =>
    simp only [opA] at e ⊢
    split at e
    · rename_i b o ha
      split at e
      · rename_i w hw
        rw [R.load hw]; exact R.some1 e
      · simp at e
    · simp at e
  | store t a x =>
    simp only [opA] at e ⊢
    split at e
    · rename_i b o w ha hx
      split at e
      · rename_i h3 hs
        obtain ⟨h4, e4, R4⟩ := R.store hs
        rw [e4]; exact R4.some1 e
      · simp at e
    · simp at e
  | convert a b x =>
    simp only [opA] at e ⊢
    split at e
    · exact R.convA e
    · simp at e
  | makeSlice t l c =>
    simp only [opA] at e ⊢
    split at e
    · exact R.makeSliceA e
    · simp at e
  | makeMap t r =>
    simp only [opA] at e ⊢
    split at e
    · split at e
      · exact R.some2 (w := fun k => .map (some k)) e
      · exact R.some2 (w := fun k => .map (some k)) e
      · simp at e
    · simp at e
  | lookup t x k ok =>
    simp only [opA] at e ⊢
    split at e
    · split at e
      · rename_i w hw
        rw [R.lookupA hw]; exact R.some1 e
      · simp at e
    · simp at e
  | mapUpdate t m k x =>
    simp only [opA] at e ⊢
    split at e
    · split at e
      · rename_i h3 hs
        obtain ⟨h4, e4, R4⟩ := R.mapUpdateA hs
        rw [e4]; exact R4.some1 e
      · simp at e
    · simp at e
  | call c =>
    simp only [opA] at e ⊢
    split at e
    · split at e
      · exact R.builtinA e
      · simp at e
    · simp at e
  | _ => first
    | (exact absurd rfl hp)
    | (simp [opA] at e)

end Go.Am
