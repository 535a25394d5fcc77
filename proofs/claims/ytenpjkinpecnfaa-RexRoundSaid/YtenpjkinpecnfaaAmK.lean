/-
  The abstract machine: copy, lengths, conversions, and each operation as a whole.
-/
import Derived.Test.YtenpjkinpecnfaaAmJ
import Derived.Laws.BytesString
namespace Go.Am
variable {P : Program} {T : TT} {w0 : Frz} {w : World} {μ : Mu} {h h' : Heap}

theorem loadCells_take {b o n m : Nat} {l : List AV} (e : loadCells h b o n = some l) (hm : m ≤ n) : loadCells h b o m = some (l.take m) := by
  unfold Am.loadCells at e ⊢
  split at e
  · rename_i cs wr hb
    split at e
    · rename_i hn
      simp at e; subst e
      rw [if_pos (by omega), List.take_take, Nat.min_eq_left hm]
    · simp at e
  · simp at e

theorem comes_take {size k m : Nat} {x : AV} {vx : Value} {new : List AV} (S : Sim w0 μ h w) (hx : VR μ x vx) (e : comes size x h = some (k, new)) (hm : m ≤ k) :
    ∃ vs : List Value, (Builtin.firstCells size m vx).run P w = .ok vs.toArray w ∧ VRs μ (new.take (m * size)) vs := by
  unfold comes at e
  split at e
  · rename_i b o n cap sz
    split at e
    · simp at e
    · rename_i hsz
      have hsz : sz = size := by simpa using hsz
      subst hsz
      simp only [VR] at hx
      obtain ⟨L, off, c, hL, rfl, hn, hroom, hbase, hcap, hoff⟩ := hx
      split at e
      · rename_i hn0
        simp at e; obtain ⟨rfl, rfl⟩ := e
        have : m = 0 := by omega
        subst this
        exact ⟨[], by simp [Builtin.firstCells, Go.loadCells, loadCellsFrom], by simp [VRs]⟩
      · rename_i hn0
        split at e
        · rename_i l hl
          split at e
          · simp at e; obtain ⟨rfl, rfl⟩ := e
            have : off = L.base + o := by
              rcases hoff with ⟨h0, _⟩ | h1
              · exact absurd h0 hn0
              · exact h1
            subst this
            obtain ⟨vs, r1, r2⟩ := run_cells (P := P) S hL (loadCells_take hl (Nat.mul_le_mul_right sz hm))
            exact ⟨vs, by simp [Builtin.firstCells, r1 w rfl], r2⟩
          · simp at e
        · simp at e
  · rename_i n cap sz
    simp only [VR] at hx
    obtain ⟨c, rfl, hn, rfl⟩ := hx
    split at e
    · simp at e; obtain ⟨rfl, rfl⟩ := e
      exact ⟨[], by simp [Builtin.firstCells], by simp [VRs]⟩
    · simp at e
  · rename_i s
    simp only [VR] at hx; subst hx
    split at e
    · rename_i hs1; subst hs1
      simp at e; obtain ⟨rfl, rfl⟩ := e
      refine ⟨(s.take m).map fun b => .int .u8 b.toNat, ?_, ?_⟩
      · have : (⟨s.toArray⟩ : ByteArray).extract 0 m = ⟨(s.take m).toArray⟩ := by
          apply ByteArray.ext
          simp
        simp [Builtin.firstCells, this]
      · refine VRs.of_get (by simp) fun i a e => ?_
        simp only [List.getElem?_map, Nat.mul_one, ← List.map_take] at e ⊢
        cases hs : (s.take m)[i]? with
        | none => rw [hs] at e; simp at e
        | some b => rw [hs] at e; simp at e; subst e; exact ⟨_, rfl, by simp [VR]⟩
    · simp at e
  · simp at e

theorem copy_run (hT : TypesOk P T) {t u : Nat} {ty : TypeId} {d x a : AV} {vd vx : Value} (S : Sim w0 μ h w) (hd : VR μ d vd) (hx : VR μ x vx) (e : copyA T t d x h = some (a, h')) :
    OpTo P w0 μ w (Builtin.copy_ #[t, u] ty #[vd, vx]) a h' := by
  unfold copyA at e
  split at e
  · rename_i ti base n cap sz ht
    obtain ⟨dd, hu, hk⟩ := (hT _ _ ht).under
    split at e
    · rename_i el hk'
      rw [hk'] at hk; have hdd := TK.of_slc hk.symm; subst hdd
      split at e
      · simp at e
      · rename_i te hte
        have ke := hT _ _ hte
        split at e
        · simp at e
        · rename_i k new hcomes
          split at e
          · simp at e
          · rename_i hszb
            obtain ⟨l1, _, l4, l5⟩ := comes_run (P := P) S hx hcomes
            obtain ⟨vs, r1, r2⟩ := comes_take (P := P) (m := min k n) S hx hcomes (Nat.min_le_left _ _)
            obtain ⟨A, c0, rfl, hcap⟩ := hd.slc_len
            have hmin : Nat.min k n = min k n := rfl
            simp only at e
            split at e
            · rename_i hnil
              simp at e; obtain ⟨rfl, rfl⟩ := e
              rw [hnil] at r2; simp only [VRs] at r2; subst r2
              refine ⟨μ, w, _, ?_, Mu.le_refl _, S, by simp only [VR]; rfl⟩
              cases A <;> simp [Builtin.copy_, run_under hu, l1, ke.size, hmin, r1, Go.storeCells, goInt]
            · rename_i l b o hne
              split at e
              · rename_i h1 hst
                simp at e; obtain ⟨rfl, rfl⟩ := e
                simp only [VR] at hd
                obtain ⟨L, off, c1, hL, hv, hnc, hrm, hbase, hcp, hoff⟩ := hd
                simp at hv; obtain ⟨rfl, rfl⟩ := hv
                have hoff' : off = L.base + o := by
                  rcases hoff with ⟨h0, _⟩ | h1
                  · subst h0; simp at hne
                  · exact h1
                subst hoff'
                obtain ⟨w', s1, s2⟩ := run_storeCells (P := P) S hL r2 hst
                refine ⟨μ, w', _, ?_, Mu.le_refl _, s2, by simp only [VR]; rfl⟩
                simp [Builtin.copy_, run_under hu, l1, ke.size, hmin, r1, s1, goInt]
              · simp at e
            · simp at e
    · simp at e
  · simp at e

theorem len_run (hT : TypesOk P T) {t : Nat} {ty : TypeId} {rest : List TypeId} {x a : AV} {vx : Value} (S : Sim w0 μ h w) (hx : VR μ x vx) (e : lenA T t x h = some a) :
    ∃ v, (Builtin.len_ (t :: rest).toArray ty #[vx]).run P w = .ok v w ∧ ∀ ν, VR ν a v := by
  unfold lenA at e
  split at e
  · simp at e
  · rename_i ti ht
    obtain ⟨dd, hu, hk⟩ := (hT _ _ ht).under
    split at e
    · rename_i s hk'
      rw [hk'] at hk; have hd := TK.of_str hk.symm; subst hd
      simp only [VR] at hx; subst hx
      simp at e; subst e
      exact ⟨.int .i64 s.length, by simp [Builtin.len_, run_under hu, size_mk, goInt], fun ν => by simp [VR]⟩
    · rename_i n el hk'
      rw [hk'] at hk; have hd := TK.of_arr hk.symm; subst hd
      simp at e; subst e
      exact ⟨.int .i64 n, by simp [Builtin.len_, run_under hu, goInt], fun ν => by simp [VR]⟩
    · rename_i el b n cap sz hk'
      rw [hk'] at hk; have hd := TK.of_slc hk.symm; subst hd
      obtain ⟨A, c0, rfl, hcap⟩ := hx.slc_len
      simp at e; subst e
      exact ⟨.int .i64 n, by simp [Builtin.len_, run_under hu, goInt], fun ν => by simp [VR]⟩
    · rename_i k1 k2 hk'
      rw [hk'] at hk; have hd := TK.of_map hk.symm; subst hd
      simp only [VR] at hx; subst hx
      simp at e; subst e
      exact ⟨.int .i64 0, by simp [Builtin.len_, run_under hu, goInt], fun ν => by simp [VR]⟩
    · rename_i k1 k2 r hk'
      rw [hk'] at hk; have hd := TK.of_map hk.symm; subst hd
      simp only [VR] at hx; obtain ⟨L, hL, rfl⟩ := hx
      split at e
      · rename_i es ck hb
        simp at e; subst e
        obtain ⟨L', q1, q2⟩ := S.at_ r _ hb
        rw [hL] at q1; simp at q1; subst q1
        obtain ⟨_, es', q3, q4, _⟩ := q2
        refine ⟨.int .i64 es.length, ?_, fun ν => by simp [VR]⟩
        have : (getObj L.blk).run P w = .ok (.map es' ck) w := by simp [getObj, Sem.run, q3]
        simp [Builtin.len_, run_under hu, goInt, this, q4]
      · simp at e
    · simp at e

theorem min_run {x a : AV} {vx : Value} : ∀ {l : List AV} {vl : List Value}, VR μ x vx → VRs μ l vl → minA x l = some a → ∃ v, (vl.foldlM Builtin.min2 vx).run P w = .ok v w ∧ VR μ a v
  | [], vl, hx, hl, e => by
    simp only [VRs] at hl; subst hl
    simp [minA] at e; subst e
    exact ⟨vx, by simp, hx⟩
  | y :: l, vl, hx, hl, e => by
    simp only [VRs] at hl
    obtain ⟨vy, vl', hy, hl, rfl⟩ := hl
    cases x with
    | int k a1 => cases y with
      | int k' b1 =>
        simp only [VR] at hx hy; subst hx hy
        simp only [minA] at e
        obtain ⟨v, r1, r2⟩ := min_run (x := .int k (if b1 < a1 then b1 else a1)) (vx := .int k (if b1 < a1 then b1 else a1)) (by simp [VR]) hl e
        exact ⟨v, by simp [Builtin.min2, r1], r2⟩
      | _ => simp [minA] at e
    | _ => simp [minA] at e

theorem max_run {x a : AV} {vx : Value} : ∀ {l : List AV} {vl : List Value}, VR μ x vx → VRs μ l vl → maxA x l = some a → ∃ v, (vl.foldlM Builtin.max2 vx).run P w = .ok v w ∧ VR μ a v
  | [], vl, hx, hl, e => by
    simp only [VRs] at hl; subst hl
    simp [maxA] at e; subst e
    exact ⟨vx, by simp, hx⟩
  | y :: l, vl, hx, hl, e => by
    simp only [VRs] at hl
    obtain ⟨vy, vl', hy, hl, rfl⟩ := hl
    cases x with
    | int k a1 => cases y with
      | int k' b1 =>
        simp only [VR] at hx hy; subst hx hy
        simp only [maxA] at e
        obtain ⟨v, r1, r2⟩ := max_run (x := .int k (if b1 > a1 then b1 else a1)) (vx := .int k (if b1 > a1 then b1 else a1)) (by simp [VR]) hl e
        refine ⟨v, ?_, r2⟩
        simp only [List.foldlM_cons, Builtin.max2, Sem.run_bind, Sem.run_pure, Result.andThen_ok]; exact r1
      | _ => simp [maxA] at e
    | _ => simp [maxA] at e

theorem bytesOf_eq : ∀ {l : List AV} {m : List UInt8}, bytesOf l = some m → ∃ ns : List Int, l = ns.map (AV.int .u8) ∧ m = ns.map (fun n => UInt8.ofNat n.toNat)
  | [], m, e => by simp [bytesOf] at e; subst e; exact ⟨[], rfl, rfl⟩
  | a :: l, m, e => by
    unfold bytesOf at e
    split at e
    · rename_i h; cases h
    · rename_i n l' h
      simp at h; obtain ⟨rfl, rfl⟩ := h
      split at e
      · rename_i m' hm
        simp at e; subst e
        obtain ⟨ns, rfl, rfl⟩ := bytesOf_eq hm
        exact ⟨n :: ns, rfl, rfl⟩
      · simp at e
    · simp at e

theorem VRs.ints : ∀ {ns : List Int} {vs : List Value}, VRs μ (ns.map (AV.int .u8)) vs → vs = ns.map (Value.int .u8)
  | [], vs, e => by simpa [VRs] using e
  | n :: ns, vs, e => by
    simp only [List.map_cons, VRs] at e
    obtain ⟨v, vs', hv, hvs, rfl⟩ := e
    simp only [VR] at hv; subst hv
    rw [VRs.ints hvs]; rfl

theorem foldl_push (ns : List Int) : ∀ (s : ByteArray), ns.foldl (fun r n => r.push (UInt8.ofNat n.toNat)) s = ⟨(s.data.toList ++ ns.map (fun n => UInt8.ofNat n.toNat)).toArray⟩ := by
  induction ns with
  | nil => intro s; simp
  | cons n ns ih =>
    intro s
    simp only [List.foldl_cons, ih]
    simp [ByteArray.push]

theorem push_modify (a : Array Obj) (x : Obj) (f : Obj → Obj) : (a.push x).modify a.size f = a.push (f x) := by
  apply Array.ext
  · simp
  · intro i h1 h2
    rw [Array.getElem_modify, Array.getElem_push, Array.getElem_push]
    by_cases hi : i < a.size
    · simp [hi]; omega
    · have : a.size = i := by simp at h2; omega
      subst this
      simp

theorem conv_run (hT : TypesOk P T) {s d : Nat} {x a : AV} {vx : Value} (S : Sim w0 μ h w) (hx : VR μ x vx) (e : convA T s d x h = some (a, h')) : OpTo P w0 μ w (convert s d vx) a h' := by
  unfold convA at e
  split at e
  · rename_i si di hs hd
    obtain ⟨ds, hus, hks⟩ := (hT _ _ hs).under
    obtain ⟨dd, hud, hkd⟩ := (hT _ _ hd).under
    split at e
    · rename_i k k' n hk'
      rw [hk'] at hkd; have hdd := TK.of_int hkd.symm; subst hdd
      simp only [VR] at hx; subst hx
      simp at e; obtain ⟨rfl, rfl⟩ := e
      exact OpTo.plain S (v := .int k (k.wrap n)) (by simp [convert, run_under hus, run_under hud, Conv.intToInt]) (by simp [VR])
    · rename_i l hk'
      rw [hk'] at hkd; have hdd := TK.of_str hkd.symm; subst hdd
      have hx' := hx
      simp only [VR] at hx; subst hx
      simp at e; obtain ⟨rfl, rfl⟩ := e
      exact OpTo.plain S (by simp [convert, run_under hus, run_under hud]) hx'
    · rename_i el l hk'
      rw [hk'] at hkd; have hdd := TK.of_slc hkd.symm; subst hdd
      simp only [VR] at hx; subst hx
      split at e
      · rename_i te hte
        split at e
        · rename_i hu8
          obtain ⟨de, hue, hke⟩ := (hT _ _ hte).under
          rw [hu8] at hke; have hde := TK.of_int hke.symm; subst hde
          simp at e; obtain ⟨rfl, rfl⟩ := e
          have hq := cut_ge l.length 0 el (w.tape w.drawn (.appendCap l.length 0 el))
          let q := (Question.appendCap l.length 0 el).cut (w.tape w.drawn (.appendCap l.length 0 el))
          let arr : Array Value := (l.map fun b => Value.int .u8 b.toNat).toArray ++ Array.replicate (q - l.length) (.int .u8 0)
          have hasz : arr.size = q := by simp [arr]; omega
          let w1 : World := { w with drawn := w.drawn + 1 }
          obtain ⟨m1, m2⟩ := (S.heap (w' := w1) rfl ⟨rfl, rfl, rfl⟩).add (.cells (l.map fun b => .int .u8 b.toNat) true) (.cells arr el (arr.size, arr.size + 1)) arr.size (fun ν w' hν hw => by
            refine ⟨arr, el, _, hw, rfl, by simp; omega, fun i a ha => ?_, fun _ => ⟨(S.heap (w' := w1) rfl ⟨rfl, rfl, rfl⟩).fresh, fun i hi => by replace hi : i < arr.size := hi; simp; omega⟩⟩
            simp only [List.getElem?_map] at ha
            cases hs : l[i]? with
            | none => rw [hs] at ha; simp at ha
            | some b =>
              rw [hs] at ha; simp at ha; subst ha
              have hi : i < l.length := (List.getElem?_eq_some_iff.1 hs).1
              refine ⟨.int .u8 b.toNat, ?_, by simp [VR]⟩
              simp only [arr, Nat.zero_add]
              rw [Array.getElem?_append_left (by simpa using hi)]
              simp [hs])
          refine ⟨_, _, _, ?_, m1, m2, VR.newSlc μ _ _ _ 1 l.length q none hq (by omega) (by simp)⟩
          have hfo : (Question.appendCap l.length 0 el).forced = false := rfl
          have hmk : (⟨l.toArray⟩ : ByteArray).data.map (fun b => Value.int .u8 b.toNat) = (l.map fun b => Value.int .u8 b.toNat).toArray := by simp
          have e1 : (convert s d (.string ⟨l.toArray⟩)).run P w = (Conv.stringToBytes el ⟨l.toArray⟩).run P w := by
            simp [convert, run_under hus, run_under hud, run_under hue]
          rw [e1]
          simp only [Conv.stringToBytes, Sem.run_bind, run_choose, size_mk, hfo, Bool.false_eq_true, if_false, Result.andThen_ok, hmk, newRow, run_newObj, Sem.run_pure, markStringish, run_shape]
          have hsh : ({ w1 with heap := w1.heap.push (.cells arr el) } : World).shape? w1.heap.size = some (el, arr.size) := by
            simp [World.shape?]
          simp only [World.shape?] at hsh ⊢
          simp only [Array.getElem?_push_size, run_freeze, Result.andThen_ok]
          have hfr : (({ heap := w.heap.push (.cells arr el), tape := w.tape, drawn := w.drawn + 1, os := w.os, output := w.output } : World).freeze ⟨w.heap.size, arr.size, none⟩ 1) = { heap := w1.heap.push (.cells arr el (arr.size, arr.size + 1)), tape := w1.tape, drawn := w1.drawn, os := w1.os, output := w1.output } := by
            simp only [World.freeze]
            rw [if_neg (by simp)]
            rw [push_modify]
            rfl
          exact congrArg (fun x => Result.ok (Value.slice (some ⟨w.heap.size, 0, none⟩) l.length q) x) hfr
        · simp at e
      · simp at e
    · rename_i el b n cap sz hk1 hk2
      rw [hk1] at hks; have hds := TK.of_slc hks.symm; subst hds
      rw [hk2] at hkd; have hdd := TK.of_str hkd.symm; subst hdd
      split at e
      · rename_i te hte
        split at e
        · rename_i hu8
          obtain ⟨de, hue, hke⟩ := (hT _ _ hte).under
          rw [hu8] at hke; have hde := TK.of_int hke.symm; subst hde
          obtain ⟨A, c0, rfl, hcap⟩ := hx.slc_len
          have e1 := run_convert_bytes_string w s d el A n c0 hus hue hud
          split at e
          · simp at e; obtain ⟨rfl, rfl⟩ := e
            simp only [VR] at hx; obtain ⟨_, _, _, hv⟩ := hx; simp at hv; obtain ⟨rfl, rfl⟩ := hv
            exact OpTo.plain S (v := .string .empty) (by rw [e1]; simp [Conv.bytesToString]) (by simp only [VR]; rfl)
          · rename_i b o
            simp only [VR] at hx
            obtain ⟨L, off, c1, hL, hv, hnc, hrm, hbase, hcp, hoff⟩ := hx
            simp at hv; obtain ⟨rfl, rfl⟩ := hv
            split at e
            · rename_i hn0; subst hn0
              simp at e; obtain ⟨rfl, rfl⟩ := e
              refine OpTo.plain S (v := .string .empty) ?_ (by simp only [VR]; rfl)
              rw [e1, run_bytesToString w _ 0 c0 [] (by simp [Go.loadCells, loadCellsFrom])]; rfl
            · rename_i hn0
              have hoff' : off = L.base + o := by
                rcases hoff with ⟨h0, _⟩ | h1
                · exact absurd h0 hn0
                · exact h1
              subst hoff'
              split at e
              · rename_i l hl
                split at e
                · rename_i m hm
                  simp at e; obtain ⟨rfl, rfl⟩ := e
                  obtain ⟨ns, rfl, rfl⟩ := bytesOf_eq hm
                  obtain ⟨vs, r1, r2⟩ := run_cells (P := P) S hL hl
                  have := VRs.ints r2; subst this
                  refine OpTo.plain S (v := .string ⟨(ns.map fun n => UInt8.ofNat n.toNat).toArray⟩) ?_ (by simp only [VR])
                  rw [e1, run_bytesToString w _ n c0 ns (r1 w rfl), foldl_push]
                  simp
                · simp at e
              · simp at e
        · simp at e
      · simp at e
    · simp at e
  · simp at e

end Go.Am
