/-
  The abstract machine: maps, capacities, zeros that are appended: what these come to in the model.
-/
import Derived.Test.YtenpjkinpecnfaaAmK
import GoSem.Instr.MapUpdate
import GoSem.Instr.MakeMap
namespace Go.Am
variable {P : Program} {T : TT} {w0 : Frz} {w : World} {μ : Mu} {h h' : Heap}

/-- A map's entries. -/
def EsR (μ : Mu) : List (AV × AV × Nat) → List MapEntry → Prop
  | [], l => l = []
  | e :: es, l => ∃ m ms, l = m :: ms ∧ VR μ e.1 m.key ∧ VR μ e.2.1 m.val ∧ m.born = e.2.2 ∧ EsR μ es ms

theorem EsR.of : ∀ {es : List (AV × AV × Nat)} {l : List MapEntry}, l.length = es.length → (∀ (i : Nat) k v (b : Nat), es[i]? = some (k, v, b) → ∃ e : MapEntry, l[i]? = some e ∧ VR μ k e.key ∧ VR μ v e.val ∧ e.born = b) → EsR μ es l
  | [], l, h1, _ => by simpa [EsR] using h1
  | (k, v, b) :: es, l, h1, h2 => by
    obtain ⟨e, e1, e2, e3, e4⟩ := h2 0 k v b rfl
    cases l with
    | nil => simp at e1
    | cons m ms =>
      simp only [List.getElem?_cons_zero, Option.some.injEq] at e1
      subst e1
      exact ⟨_, _, rfl, e2, e3, e4, EsR.of (by simpa using h1) fun i k v b hi => by simpa using h2 (i + 1) k v b (by simpa using hi)⟩

theorem EsR.get : ∀ {es : List (AV × AV × Nat)} {l : List MapEntry}, EsR μ es l → l.length = es.length ∧ ∀ (i : Nat) k v (b : Nat), es[i]? = some (k, v, b) → ∃ e : MapEntry, l[i]? = some e ∧ VR μ k e.key ∧ VR μ v e.val ∧ e.born = b
  | [], l, h => by simp only [EsR] at h; subst h; simp
  | e :: es, l, h => by
    obtain ⟨m, ms, rfl, h1, h2, h3, h4⟩ := h
    obtain ⟨g1, g2⟩ := h4.get
    refine ⟨by simp [g1], fun i k v b hi => ?_⟩
    cases i with
    | zero =>
      simp only [List.getElem?_cons_zero, Option.some.injEq] at hi
      subst hi
      exact ⟨m, rfl, h1, h2, h3⟩
    | succ i => simpa using g2 i k v b (by simpa using hi)

theorem EsR.set {es : List (AV × AV × Nat)} {l : List MapEntry} (r : EsR μ es l) (i : Nat) {k v : AV} {b : Nat} {m : MapEntry} (h1 : VR μ k m.key) (h2 : VR μ v m.val) (h3 : m.born = b) : EsR μ (es.set i (k, v, b)) (l.set i m) := by
  obtain ⟨g1, g2⟩ := r.get
  refine EsR.of (by simpa using g1) fun j k' v' b' hj => ?_
  rw [List.getElem?_set] at hj ⊢
  by_cases hij : i = j
  · subst hij
    simp only [if_true] at hj ⊢
    split at hj
    · rename_i hlt
      simp only [Option.some.injEq, Prod.mk.injEq] at hj
      obtain ⟨rfl, rfl, rfl⟩ := hj
      rw [if_pos (by omega)]
      exact ⟨m, rfl, h1, h2, h3⟩
    · simp at hj
  · rw [if_neg hij] at hj ⊢
    exact g2 j k' v' b' hj

theorem EsR.push {es : List (AV × AV × Nat)} {l : List MapEntry} (r : EsR μ es l) {k v : AV} {b : Nat} {m : MapEntry} (h1 : VR μ k m.key) (h2 : VR μ v m.val) (h3 : m.born = b) : EsR μ (es ++ [(k, v, b)]) (l ++ [m]) := by
  obtain ⟨g1, g2⟩ := r.get
  refine EsR.of (by simpa using g1) fun j k' v' b' hj => ?_
  rw [List.getElem?_append] at hj ⊢
  by_cases hlt : j < es.length
  · rw [if_pos hlt] at hj
    rw [if_pos (by omega)]
    exact g2 j k' v' b' hj
  · rw [if_neg hlt] at hj
    rw [if_neg (by omega), g1]
    have h0 : j - es.length = 0 := by
      have := (List.getElem?_eq_some_iff.1 hj).1
      simp at this; omega
    rw [h0] at hj ⊢
    simp only [List.getElem?_cons_zero, Option.some.injEq, Prod.mk.injEq] at hj ⊢
    obtain ⟨rfl, rfl, rfl⟩ := hj
    exact ⟨m, rfl, h1, h2, h3⟩

theorem map_at (S : Sim w0 μ h w) {r : Nat} {es : List (AV × AV × Nat)} {clock : Nat} {L : Loc} (hg : h.get r = some (.map es clock)) (hL : μ r = some L) :
    w0.old L.blk = none ∧ ∃ es' : Array MapEntry, w.heap[L.blk]? = some (.map es' clock) ∧ EsR μ es es'.toList := by
  obtain ⟨L', q1, q2⟩ := S.at_ r _ hg
  rw [hL] at q1; simp at q1; subst q1
  obtain ⟨q0, es', q3, q4, q5⟩ := q2
  exact ⟨q0, es', q3, EsR.of (by simpa using q4) fun i k v b hi => by
    obtain ⟨e, e1, e2⟩ := q5 i k v b hi
    exact ⟨e, by simpa using e1, e2⟩⟩

theorem mapTypes_ok (hT : TypesOk P T) {t : Nat} {ki : TK} {et : Nat} (e : mapTypes T t = some (ki, et)) : ∃ kt dk, P.underlying t = some (.map kt et) ∧ P.underlying kt = some dk ∧ ki = TK.of dk ∧ ((∃ k, dk = .int k) ∨ dk = .string ∨ dk = .bool) := by
  unfold mapTypes at e
  split at e
  · rename_i ti ht
    obtain ⟨d, hu, hk⟩ := (hT _ _ ht).under
    split at e
    · rename_i kt et' hk'
      rw [hk'] at hk; have hd := TK.of_map hk.symm; subst hd
      split at e
      · rename_i tk htk
        obtain ⟨dk, huk, hkk⟩ := (hT _ _ htk).under
        split at e
        · rename_i k hk2
          simp only [Option.some.injEq, Prod.mk.injEq] at e; obtain ⟨rfl, rfl⟩ := e
          rw [hk2] at hkk; have hd2 := TK.of_int hkk.symm; subst hd2
          exact ⟨kt, _, hu, huk, rfl, .inl ⟨_, rfl⟩⟩
        · rename_i hk2
          simp only [Option.some.injEq, Prod.mk.injEq] at e; obtain ⟨rfl, rfl⟩ := e
          rw [hk2] at hkk; have hd2 := TK.of_str hkk.symm; subst hd2
          exact ⟨kt, _, hu, huk, rfl, .inr (.inl rfl)⟩
        · rename_i hk2
          simp only [Option.some.injEq, Prod.mk.injEq] at e; obtain ⟨rfl, rfl⟩ := e
          rw [hk2] at hkk; have hd2 := TK.of_bool hkk.symm; subst hd2
          exact ⟨kt, _, hu, huk, rfl, .inr (.inr rfl)⟩
        · simp at e
      · simp at e
    · simp at e
  · simp at e

theorem keyEq_run {dk : TypeDesc} {a b : AV} {va vb : Value} {r : Bool} (e : keyEq (TK.of dk) a b = some r) (ha : VR μ a va) (hb : VR μ b vb) : Instr.sameNow dk va vb = some r ∧ (r = true → va = vb ∧ Instr.sameBits 10000 va vb = true) := by
  unfold keyEq at e
  split at e
  · rename_i k1 k a' k' b' hk
    have hd := TK.of_int hk; subst hd
    simp only [VR] at ha hb; subst ha hb
    split at e
    · rename_i hkk; subst hkk
      simp only [Option.some.injEq] at e; subst e
      refine ⟨by simp [Instr.sameNow], fun h => ?_⟩
      have : a' = b' := by simpa using h
      subst this
      exact ⟨rfl, by simp [Instr.sameBits]⟩
    · simp at e
  · rename_i a' b' hk
    have hd := TK.of_str hk; subst hd
    simp only [VR] at ha hb; subst ha hb
    simp only [Option.some.injEq] at e; subst e
    refine ⟨by simp [Instr.sameNow, beq_toListBytes], fun h => ?_⟩
    have : a' = b' := by simpa using h
    subst this
    exact ⟨rfl, by simp [Instr.sameBits, beq_toListBytes]⟩
  · rename_i a' b' hk
    have hd := TK.of_bool hk; subst hd
    simp only [VR] at ha hb; subst ha hb
    simp only [Option.some.injEq] at e; subst e
    refine ⟨by simp [Instr.sameNow], fun h => ?_⟩
    have : a' = b' := by simpa using h
    subst this
    exact ⟨rfl, by simp [Instr.sameBits]⟩
  · simp at e

theorem findA_run {dk : TypeDesc} {k : AV} {vk : Value} (hk : VR μ k vk) : ∀ {es : List (AV × AV × Nat)} {l : List MapEntry} {i : Nat} {r : Option (Nat × AV × Nat)}, EsR μ es l → findA (TK.of dk) k es i = some r →
    (r = none → Instr.findNow dk vk l i = some none) ∧ ∀ j v b, r = some (j, v, b) → ∃ m : MapEntry, Instr.findNow dk vk l i = some (some (j, m.val)) ∧ i ≤ j ∧ l[j - i]? = some m ∧ VR μ v m.val ∧ m.born = b ∧ vk = m.key ∧ Instr.sameBits 10000 vk m.key = true
  | [], l, i, r, hr, e => by
    simp only [EsR] at hr; subst hr
    simp only [findA, Option.some.injEq] at e; subst e
    exact ⟨fun _ => rfl, by simp⟩
  | x :: es, l, i, r, hr, e => by
    obtain ⟨m, ms, rfl, h1, h2, h3, h4⟩ := hr
    simp only [findA] at e
    split at e
    · rename_i hq
      obtain ⟨s1, s2⟩ := keyEq_run hq hk h1
      obtain ⟨s3, s4⟩ := s2 rfl
      simp only [Option.some.injEq] at e; subst e
      refine ⟨by simp, fun j v b hj => ?_⟩
      simp only [Option.some.injEq, Prod.mk.injEq] at hj
      obtain ⟨rfl, hx⟩ := hj
      obtain ⟨x1, x2, x3⟩ := x
      simp only [Prod.mk.injEq] at hx
      obtain ⟨rfl, rfl⟩ := hx
      exact ⟨m, by simp [Instr.findNow, s1], Nat.le_refl _, by simp, h2, h3, s3, s4⟩
    · rename_i hq
      obtain ⟨s1, _⟩ := keyEq_run hq hk h1
      obtain ⟨i1, i2⟩ := findA_run hk h4 e
      refine ⟨fun h => by simp [Instr.findNow, s1, i1 h], fun j v b hj => ?_⟩
      obtain ⟨m', q1, q2, q3, q4⟩ := i2 j v b hj
      refine ⟨m', by simp [Instr.findNow, s1, q1], by omega, ?_, q4⟩
      rw [show j - i = (j - (i + 1)) + 1 by omega]
      simpa using q3
    · simp at e

theorem checkKey_run {kt : Nat} {dk : TypeDesc} (hu : P.underlying kt = some dk) (hd : (∃ k, dk = .int k) ∨ dk = .string ∨ dk = .bool) (em : Bool) (v : Value) (w : World) : (Instr.checkKey em 10000 kt v).run P w = .ok () w := by
  show (Instr.checkKey em (9999 + 1) kt v).run P w = .ok () w
  unfold Instr.checkKey
  simp only [Sem.run_bind, run_under hu, Result.andThen_ok]
  rcases hd with ⟨k, rfl⟩ | rfl | rfl <;> simp

theorem zeroOf_run (hT : TypesOk P T) {t : Nat} {z : AV} (e : zeroOf T t = some z) : ∃ zv, (∀ w, (zeroValue t).run P w = .ok zv w) ∧ ∀ μ, VR μ z zv := by
  unfold zeroOf at e
  split at e
  · rename_i ti ht
    have k := hT _ _ ht
    obtain ⟨i, i1, i2, i3, zv, i4, i5⟩ := k.info
    have hz : ∀ w, (zeroValue t).run P w = .ok zv w := fun w => by simp [zeroValue, run_info i1, i4]
    obtain ⟨f1, f2⟩ := k.zform i zv i1 i4
    refine ⟨zv, hz, fun μ => ?_⟩
    split at e
    · rename_i ha
      simp only [Option.some.injEq] at e; subst e
      obtain ⟨cs, rfl⟩ := f1 ha
      simp only [VR]
      exact ⟨cs, VRs.ofLeafs (by simpa [Value.cells] using i5), rfl⟩
    · rename_i ha
      have f2 := f2 (by simpa using ha)
      split at e
      · rename_i v hv
        simp only [Option.some.injEq] at e; subst e
        have hc : zv.cells = #[zv] := by
          cases zv <;> first | rfl | exact absurd rfl (f2 _)
        rw [hc, hv] at i5
        simp only [ofLeafs] at i5
        split at i5
        · rename_i a m h1 h2
          simp only [Option.some.injEq, List.cons.injEq] at i5
          obtain ⟨rfl, _⟩ := i5
          exact VR.ofLeaf h1
        · simp at i5
      · simp at e
  · simp at e

theorem entries_run (S : Sim w0 μ h w) {x : AV} {vx : Value} {es : List (AV × AV × Nat)} (hx : VR μ x vx) (e : entriesA x h = some es) :
    ∃ es' : Array MapEntry, EsR μ es es'.toList ∧ (vx = .map none ∧ es' = #[] ∨ ∃ r ck, vx = .map (some r) ∧ w.heap[r]? = some (.map es' ck)) := by
  unfold entriesA at e
  split at e
  · simp only [Option.some.injEq] at e; subst e
    simp only [VR] at hx; subst hx
    exact ⟨#[], by simp [EsR], .inl ⟨rfl, rfl⟩⟩
  · rename_i r
    simp only [VR] at hx; obtain ⟨L, hL, rfl⟩ := hx
    split at e
    · rename_i es0 ck hg
      simp only [Option.some.injEq] at e; subst e
      obtain ⟨_, es', q1, q2⟩ := map_at S hg hL
      exact ⟨es', q2, .inr ⟨_, _, rfl, q1⟩⟩
    · simp at e
  · simp at e

theorem run_getMap {w : World} {r : Nat} {es : Array MapEntry} {ck : Nat} (hb : w.heap[r]? = some (.map es ck)) : (getObj r).run P w = .ok (.map es ck) w := by simp [getObj, Sem.run, hb]
theorem run_setMap {w : World} {r : Nat} {es : Array MapEntry} {ck : Nat} (o : Obj) (hb : w.heap[r]? = some (.map es ck)) : (setObj r o).run P w = .ok () { w with heap := w.heap.setIfInBounds r o } := by simp [setObj, Sem.run, hb]

theorem lookup_run (hT : TypesOk P T) (S : Sim w0 μ h w) {t : Nat} {x k a : AV} {vx vk : Value} {ok : Bool} (hx : VR μ x vx) (hk : VR μ k vk) (e : lookupA T t x k ok h = some a) : ∃ v, (Instr.lookup t vx vk ok).run P w = .ok v w ∧ VR μ a v := by
  unfold lookupA at e
  split at e
  · rename_i ki et es hm he
    obtain ⟨kt, dk, hu, huk, rfl, hd⟩ := mapTypes_ok hT hm
    obtain ⟨es', r1, r2⟩ := entries_run S hx he
    have hck := fun em => checkKey_run (P := P) huk hd em vk w
    split at e
    · rename_i j v b hf
      simp only [Option.some.injEq] at e
      obtain ⟨m, q1, _, _, q4, _⟩ := (findA_run hk r1 hf).2 j v b rfl
      refine ⟨if ok then .tuple #[m.val, .bool true] else m.val, ?_, ?_⟩
      · rcases r2 with ⟨rfl, rfl⟩ | ⟨r, ck, rfl, hb⟩
        · cases ok <;> simp [Instr.lookup, run_under hu, hck, Instr.findKey, run_under huk, q1]
        · cases ok <;> simp [Instr.lookup, run_under hu, run_getMap (P := P) hb, hck, Instr.findKey, run_under huk, q1]
      · subst e
        cases ok
        · exact q4
        · simp only [if_true, VR, VRs]; exact ⟨_, ⟨_, _, q4, ⟨_, _, rfl, rfl, rfl⟩, rfl⟩, rfl⟩
    · rename_i hf
      split at e
      · rename_i z hz
        simp only [Option.some.injEq] at e
        obtain ⟨zv, z1, z2⟩ := zeroOf_run (P := P) hT hz
        have q1 := (findA_run hk r1 hf).1 rfl
        refine ⟨if ok then .tuple #[zv, .bool false] else zv, ?_, ?_⟩
        · rcases r2 with ⟨rfl, rfl⟩ | ⟨r, ck, rfl, hb⟩
          · cases ok <;> simp [Instr.lookup, run_under hu, hck, Instr.findKey, run_under huk, q1, z1]
          · cases ok <;> simp [Instr.lookup, run_under hu, run_getMap (P := P) hb, hck, Instr.findKey, run_under huk, q1, z1]
        · subst e
          cases ok
          · exact z2 μ
          · simp only [if_true, VR, VRs]; exact ⟨_, ⟨_, _, z2 μ, ⟨_, _, rfl, rfl, rfl⟩, rfl⟩, rfl⟩
      · simp at e
    · simp at e
  · simp at e

theorem mapUpdate_run (hT : TypesOk P T) (S : Sim w0 μ h w) {t : Nat} {m k x : AV} {vm vk vx : Value} (hm : VR μ m vm) (hk : VR μ k vk) (hx : VR μ x vx) (e : mapUpdateA T t m k x h = some h') : ∃ w', (Instr.mapUpdate t vm vk vx).run P w = .ok () w' ∧ Sim w0 μ h' w' := by
  unfold mapUpdateA at e
  split at e
  · rename_i ki et r hmt
    obtain ⟨kt, dk, hu, huk, rfl, hd⟩ := mapTypes_ok hT hmt
    simp only [VR] at hm; obtain ⟨L, hL, rfl⟩ := hm
    split at e
    · rename_i es clock hg
      obtain ⟨q0, es', q1, q2⟩ := map_at S hg hL
      have hck := fun em => checkKey_run (P := P) huk hd em vk w
      have hlt := (Array.getElem?_eq_some_iff.1 q1).1
      have turn : ∀ (y : List (AV × AV × Nat)) (y' : Array MapEntry) (c : Nat), EsR μ y y'.toList → Sim w0 μ (h.put r (.map y c)) { w with heap := w.heap.setIfInBounds L.blk (.map y' c) } := by
        intro y y' c hy
        refine S.turn (.map y c) hg hL rfl (by simp) (fun k hk => ?_) ?_ ⟨rfl, rfl, rfl⟩
        · show (w.heap.setIfInBounds L.blk _)[k]? = _
          rw [Array.getElem?_setIfInBounds, if_neg (fun e => hk e.symm)]
        · obtain ⟨g1, g2⟩ := hy.get
          refine ⟨q0, y', ?_, by simpa using g1, fun i k v b hi => ?_⟩
          · show (w.heap.setIfInBounds L.blk _)[L.blk]? = _
            rw [Array.getElem?_setIfInBounds, if_pos rfl, if_pos hlt]
          · obtain ⟨e, e1, e2⟩ := g2 i k v b hi
            exact ⟨e, by simpa using e1, e2⟩
      split at e
      · rename_i i v b hf
        simp only [Option.some.injEq] at e; subst e
        obtain ⟨me, p1, _, p3, _, p5, p6, p7⟩ := (findA_run hk q2 hf).2 i v b rfl
        have p3' : es'[i]? = some me := by simpa using p3
        refine ⟨_, ?_, turn _ (es'.modify i fun e => { e with key := vk, val := vx }) clock ?_⟩
        · unfold Instr.mapUpdate
          simp only [Sem.run_bind, run_under hu, Result.andThen_ok, run_getMap (P := P) q1, hck, Instr.findKey, run_under huk, p1, Sem.run_pure, p3', Option.map_some, Option.getD_some]
          unfold Instr.keyThatStays
          rw [p6] at p7
          rw [← p6] at p7 ⊢
          simp only [p7, if_true, Sem.run_pure, Result.andThen_ok]
          exact run_setMap _ q1
        · have hs : (es'.modify i fun e => { e with key := vk, val := vx }).toList = es'.toList.set i { me with key := vk, val := vx } := by
            refine List.ext_getElem? fun j => ?_
            rw [Array.getElem?_toList, Array.getElem?_modify, List.getElem?_set]
            by_cases hij : i = j
            · subst hij
              have hl := (Array.getElem?_eq_some_iff.1 p3').1
              rw [if_pos rfl, if_pos rfl, if_pos (by simpa using hl), p3']; rfl
            · rw [if_neg hij, if_neg hij, Array.getElem?_toList]
          rw [hs]
          exact q2.set i hk hx p5
      · rename_i hf
        simp only [Option.some.injEq] at e; subst e
        have p1 := (findA_run hk q2 hf).1 rfl
        refine ⟨_, ?_, turn _ (es'.push { key := vk, val := vx, born := clock }) (clock + 1) ?_⟩
        · unfold Instr.mapUpdate
          simp only [Sem.run_bind, run_under hu, Result.andThen_ok, run_getMap (P := P) q1, hck, Instr.findKey, run_under huk, p1, Sem.run_pure]
          exact run_setMap _ q1
        · rw [Array.toList_push]
          exact q2.push hk hx rfl
      · simp at e
    · simp at e
  · simp at e

theorem makeMap_run (S : Sim w0 μ h w) {t : Nat} {r : Option Value} (hr : ∀ v, r = some v → (∃ k n, v = .int k n) ∧ ∃ kt et, P.underlying t = some (.map kt et)) : OpTo P w0 μ w (Instr.makeMap t r) (.map (some h.nxt)) (h.add (.map [] 0)) := by
  obtain ⟨m1, m2⟩ := S.add (.map [] 0) (.map #[] 0) 0 (fun ν w' hν hw => ⟨S.fresh, #[], hw, rfl, by simp⟩)
  refine ⟨_, _, _, ?_, m1, m2, by simp only [VR]; exact ⟨_, Mu.upd_same _ _ _, rfl⟩⟩
  cases r with
  | none => simp [Instr.makeMap]
  | some v =>
    obtain ⟨⟨k, n, rfl⟩, kt, et, hu⟩ := hr v rfl
    simp [Instr.makeMap, run_under hu, asInt, asIntOf]

theorem cap_run (hT : TypesOk P T) {t : Nat} {ty : TypeId} {rest : List TypeId} {ti : TI} {el : Nat} {a : Option (Nat × Nat)} {n c sz : Nat} {vx : Value} (hx : VR μ (.slc a n (some c) sz) vx) (ht : T t = some ti) (hk : ti.kind = .slc el) :
    (Builtin.cap_ (t :: rest).toArray ty #[vx]).run P w = .ok (.int .i64 c) w := by
  obtain ⟨d, hu, hk2⟩ := (hT _ _ ht).under
  rw [hk] at hk2; have hd := TK.of_slc hk2.symm; subst hd
  obtain ⟨A, c0, rfl, hcap⟩ := hx.slc_len
  have := hcap c rfl
  subst this
  simp [Builtin.cap_, run_under hu, goInt]

theorem appendZ_run (hT : TypesOk P T) {t u : Nat} {ty : TypeId} {s x a : AV} {vs vx : Value} {k0 : IntKind} (S : Sim w0 μ h w) (hs : VR μ s vs) (hx : VR μ x vx) (huu : P.underlying u = some (.int k0))
    (e : appendZ T t s x h = some (a, h')) : OpTo P w0 μ w (Builtin.append_ #[t, u] ty #[vs, vx]) a h' := by
  unfold appendZ at e
  split at e
  · rename_i ti base sz kx m ht
    obtain ⟨d, hu, hk⟩ := (hT _ _ ht).under
    simp only [VR] at hx; subst hx
    split at e
    · rename_i el hk'
      rw [hk'] at hk; have hd := TK.of_slc hk.symm; subst hd
      split at e
      · simp at e
      · rename_i te hte
        have ke := hT _ _ hte
        obtain ⟨inf, i1, i2, i3, _⟩ := ke.info
        obtain ⟨A, c0, rfl, hcap⟩ := hs.slc_len
        have hc0 := hcap 0 rfl
        subst hc0
        split at e
        · simp at e
        · split at e
          · rename_i hm0
            subst hm0
            simp only [Option.some.injEq, Prod.mk.injEq] at e; obtain ⟨rfl, rfl⟩ := e
            refine OpTo.plain S ?_ hs
            have hw0 : IntKind.i64.wrap 0 = 0 := by decide
            cases A with
            | none => simp [Builtin.append_, run_under hu, run_under huu, ke.size, asInt, asIntOf, hw0, run_info i1]
            | some b => simp [Builtin.append_, run_under hu, run_under huu, ke.size, asInt, asIntOf, hw0, run_info i1, Go.storeCells]
          · split at e
            · rename_i hb
              obtain ⟨b1, b2, b3, b4, b5⟩ := hb
              simp only [Option.some.injEq, Prod.mk.injEq] at e; obtain ⟨rfl, rfl⟩ := e
              obtain ⟨z0, hz0, hz02⟩ := ke.zero'
              have hzr : VRs μ (zeroRow te.zero (m.toNat * te.size)) ((Array.range (m.toNat * te.size)).map (z0.cells[· % z0.cells.size]!)).toList := zeroRow_rel (VRs.ofLeafs hz02) _ (.inr (by have := ke.zlen; omega))
              have hq := cut_ge (m.toNat) 0 el (w.tape w.drawn (.appendCap m.toNat 0 el))
              have hgr := grow_run (P := P) ke S (need := m.toNat) (zeroRow te.zero (m.toNat * te.size)) _ hzr (by simp [zeroRow]) _ hq
              obtain ⟨z, hz, hgr⟩ := hgr
              have hzz : z = z0 := by
                have h1 := hz w
                rw [hz0 w] at h1
                simp only [Result.ok.injEq] at h1
                exact h1.1.symm
              subst hzz
              obtain ⟨g1, g2, g3, g4⟩ := hgr (w.drawn + 1)
              refine ⟨_, _, _, ?_, g2, g3, g4⟩
              have hw : IntKind.i64.wrap m = m := by
                have h3 : m % (2 ^ 64 : Int) = m := Int.emod_eq_of_lt (by omega) (by omega)
                simp only [IntKind.wrap, IntKind.bits, IntKind.signed, h3]
                simp; omega
              have hzl : z.cells.size = te.size := by
                have := (VRs.ofLeafs (μ := μ) hz02).len
                have h2 := ke.zlen
                simp at this; omega
              have hmul : m.toNat * te.bytes ≤ 16777216 * 1048576 := Nat.mul_le_mul (by omega) b4
              have hmI : ¬ (m * (inf.bytes : Int) > 2 ^ 48) := by
                rw [i3]
                have : m * (te.bytes : Int) = ((m.toNat * te.bytes : Nat) : Int) := by
                  rw [Int.natCast_mul, Int.toNat_of_nonneg (by omega)]
                have h48 : (2 : Int) ^ 48 = 281474976710656 := by decide
                omega
              have hnb : ¬ (Builtin.nextslicecap m.toNat 0 * inf.bytes > 2 ^ 48) := by
                have h1 := nextcap_le (need := m.toNat) (old := 0) (by omega)
                rw [i3]
                have h2 : Builtin.nextslicecap m.toNat 0 * te.bytes ≤ (2 * m.toNat + 192) * te.bytes := Nat.mul_le_mul_right _ h1
                have h3 : (2 * m.toNat + 192) * te.bytes = 2 * (m.toNat * te.bytes) + 192 * te.bytes := by rw [Nat.add_mul, Nat.mul_assoc]
                omega
              have hfo : (Question.appendCap m.toNat 0 el).forced = false := rfl
              have hbytes : ¬ inf.bytes = 0 := by rw [i3]; exact b3
              have hns : ¬ (m.toNat * te.size = 0) := by
                have := Nat.mul_pos (show 0 < m.toNat by omega) b5
                omega
              have hneg : ¬ (m < 0) := by omega
              have hmx : ¬ ((m.toNat : Int) > IntKind.i64.max) := by
                have : IntKind.i64.max = 9223372036854775807 := by decide
                omega
              have hmn : m.toNat ≠ 0 := by omega
              have hold : ∀ d, (Builtin.firstCells te.size 0 (.slice A 0 0)).run P { w with drawn := d } = .ok #[] { w with drawn := d } := fun d => by
                cases A with
                | none => simp [Builtin.firstCells]
                | some b => simp [Builtin.firstCells, Go.loadCells, loadCellsFrom]
              have hzc : Builtin.zeroCells z.cells m.toNat = (Array.range (m.toNat * te.size)).map (z.cells[· % z.cells.size]!) := by
                simp [Builtin.zeroCells, hzl]
              have hnd := hold (w.drawn + 1)
              have hmI' : ¬ (281474976710656 < m * (inf.bytes : Int)) := by
                have h48 : (2 : Int) ^ 48 = 281474976710656 := by decide
                omega
              have hm1 : ¬ (m ≤ 0) := by omega
              have hmx2 : ¬ (9223372036854775807 < max m 0) := by omega
              have hnb2 : ¬ (281474976710656 < Builtin.nextslicecap m.toNat 0 * inf.bytes) := by
                have h48 : (2 : Nat) ^ 48 = 281474976710656 := by decide
                omega
              rw [← hzc] at g1
              simp [Builtin.append_, run_under hu, run_under huu, ke.size, asInt, asIntOf, hw, hneg, run_info i1, hmI', hm1, hmx2, hnb2, hmn, hns, hfo, hbytes, hz, show ¬ te.size = 0 by omega]
              rw [show w.drew = ({ w with drawn := w.drawn + 1 } : World) from rfl, hnd]
              simp only [Result.andThen_ok]
              have g2' := g1
              simp only [Array.toArray_toList] at g2'
              rw [Array.empty_append]
              erw [g2']
              have harr : (List.map (fun x => z.cells[x % z.cells.size]!) (List.range (m.toNat * te.size))).toArray = Array.map (fun x => z.cells[x % z.cells.size]!) (Array.range (m.toNat * te.size)) := by
                apply Array.ext'
                simp
              simp [hzc, harr]
            · simp at e
    · simp at e
  · simp at e

end Go.Am
