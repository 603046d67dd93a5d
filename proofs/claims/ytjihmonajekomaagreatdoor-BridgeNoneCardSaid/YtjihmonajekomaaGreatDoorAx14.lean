/- Operations that change maps and iterators. Conditions: as each theorem states. -/
import Derived.Test.YtjihmonajekomaaGreatDoorAx13
namespace Go.Proofs.YtjihmonajekomaaGreatDoor.Ax
open Go Go.RowKit
set_option linter.unusedVariables false

section
variable {P : Program} {ifs : List TypeId} {φ : Emb} {w0 w : World} {h h' : AH} {env : List AV} {ρ : Operand → Value}

theorem run_setObjX {r : Nat} {o : Obj} (ho : w.heap[r]? = some o) (hc : ∀ C e fr, o ≠ .cells C e fr) (o' : Obj) : (setObj r o').run P w = .ok () { w with heap := w.heap.setIfInBounds r o' } := by
  cases o <;> simp_all [setObj, Sem.run]

theorem flatSame_bits {a b : AV} {a' b' : Value} (hs : flatSame a b = true) (ha : VR φ a a') (hb : VR φ b b') (n : Nat) : Instr.sameBits n a' b' = true := by
  unfold flatSame at hs
  split at hs
  · rw [vr_bool ha, vr_bool hb]; unfold Instr.sameBits; exact hs
  · rw [vr_int ha, vr_int hb]; unfold Instr.sameBits; simpa using hs
  · obtain ⟨t, rfl, h1⟩ := vr_str ha
    obtain ⟨u, rfl, h2⟩ := vr_str hb
    unfold Instr.sameBits
    simp only [beq_iff_eq] at hs
    subst hs
    rw [beq_toListBytes, byteArray_toList, byteArray_toList, bytes_beq, h1, h2]; simp
  · cases hs

theorem plainSame_bits {a b : AV} {a' b' : Value} (hs : plainSame a b = true) (ha : VR φ a a') (hb : VR φ b b') : Instr.sameBits 10000 a' b' = true := by
  unfold plainSame at hs
  split at hs
  · rename_i xs ys
    obtain ⟨xs', rfl, hx⟩ := vr_agg ha
    obtain ⟨ys', rfl, hy⟩ := vr_agg hb
    simp only [Bool.and_eq_true, beq_iff_eq] at hs
    unfold Instr.sameBits
    have hlx := hx.len
    have hly := hy.len
    simp only [Array.length_toList] at hlx hly
    simp only [Bool.and_eq_true, beq_iff_eq]
    refine ⟨by omega, ?_⟩
    have hall := hs.2
    clear hs hlx hly ha hb
    generalize xs'.toList = l at hx
    generalize ys'.toList = r at hy
    induction xs generalizing ys l r with
    | nil => simp only [VRs] at hx; subst hx; rfl
    | cons x xs ih =>
      simp only [VRs] at hx
      obtain ⟨v, l', rfl, h1, h2⟩ := hx
      cases ys with
      | nil => simp only [VRs] at hy; subst hy; rfl
      | cons y ys =>
        simp only [VRs] at hy
        obtain ⟨u, r', rfl, k1, k2⟩ := hy
        simp only [List.zip_cons_cons, List.all_cons, Bool.and_eq_true] at hall ⊢
        exact ⟨flatSame_bits hall.1 h1 k1 _, ih ys hall.2 _ h2 _ k2⟩
  · exact flatSame_bits hs ha hb _

theorem MR.set : ∀ {es : List (AV × AV × Nat)} {l : List MapEntry}, MR φ es l → ∀ {i : Nat} {e : AV × AV × Nat} {k v : AV} {k' v' : Value} (f : MapEntry → MapEntry), es[i]? = some e → VR φ k k' → VR φ v v' →
    (∀ m, l[i]? = some m → (f m).key = k' ∧ (f m).val = v' ∧ (f m).born = m.born) → MR φ (es.set i (k, v, e.2.2)) (l.modify i f)
  | [], l, hm, i, e, k, v, k', v', f, he, _, _, _ => by simp at he
  | x :: r, l, hm, i, e, k, v, k', v', f, he, hk, hv, hf => by
    simp only [MR] at hm
    obtain ⟨m, t, rfl, h1, h2, h3, h4⟩ := hm
    cases i with
    | zero =>
      simp at he; subst he
      obtain ⟨f1, f2, f3⟩ := hf m rfl
      simp only [List.set_cons_zero, List.modify_zero_cons, MR]
      exact ⟨_, _, rfl, by rw [f1]; exact hk, by rw [f2]; exact hv, by rw [f3]; exact h3, h4⟩
    | succ i =>
      simp only [List.set_cons_succ, List.modify_succ_cons, MR]
      exact ⟨m, _, rfl, h1, h2, h3, MR.set h4 f (by simpa using he) hk hv (fun m' hm' => hf m' (by simpa using hm'))⟩

theorem MR.append : ∀ {es : List (AV × AV × Nat)} {l : List MapEntry}, MR φ es l → ∀ {k v : AV} {k' v' : Value} (b : Nat), VR φ k k' → VR φ v v' → MR φ (es ++ [(k, v, b)]) (l ++ [{ key := k', val := v', born := b }])
  | [], l, hm, k, v, k', v', b, hk, hv => by
    simp only [MR] at hm; subst hm
    simp only [List.nil_append, MR]
    exact ⟨_, _, rfl, hk, hv, rfl, rfl⟩
  | x :: r, l, hm, k, v, k', v', b, hk, hv => by
    simp only [MR] at hm
    obtain ⟨m, t, rfl, h1, h2, h3, h4⟩ := hm
    simp only [List.cons_append, MR]
    exact ⟨m, _, rfl, h1, h2, h3, MR.append h4 b hk hv⟩

theorem MR.erase : ∀ {es : List (AV × AV × Nat)} {l : List MapEntry}, MR φ es l → ∀ (i : Nat), MR φ (es.eraseIdx i) (l.eraseIdx i)
  | [], l, hm, i => by simp only [MR] at hm; subst hm; simp [MR]
  | x :: r, l, hm, i => by
    simp only [MR] at hm
    obtain ⟨m, t, rfl, h1, h2, h3, h4⟩ := hm
    cases i with
    | zero => simpa using h4
    | succ i =>
      simp only [List.eraseIdx_cons_succ, MR]
      exact ⟨m, _, rfl, h1, h2, h3, MR.erase h4 i⟩

/-- A MAP CHANGES. -/
theorem Rel.setMap (hr : Rel P ifs φ w0 h w) {r b N : Nat} (hφ : φ r = some (b, 0, N)) {es es' : List (AV × AV × Nat)} {cl cl' : Nat} (hg : h.get r = .map es cl) {E' : Array MapEntry} (hm : MR φ es' E'.toList) :
    (Go.setObj b (.map E' cl')).run P w = .ok () { w with heap := w.heap.setIfInBounds b (.map E' cl') } ∧
    Rel P ifs φ w0 (h.set r (.map es' cl')) { w with heap := w.heap.setIfInBounds b (.map E' cl') } ∧ Stp φ φ w { w with heap := w.heap.setIfInBounds b (.map E' cl') } := by
  obtain ⟨E, q1, q2, q3⟩ := hr.mapAt hφ hg
  obtain ⟨k1, k2⟩ := hr.setObj (blk := .map es' cl') (o := .map E' cl') hφ (by rw [hg]; simp) (by rw [hg]; rfl) rfl ⟨rfl, E', rfl, hm⟩
  exact ⟨run_setObjX q1 (by simp) _, k1, k2⟩

theorem findIn_get {ke : EqTy} {k : AV} : ∀ {es : List (AV × AV × Nat)} {i j : Nat} {v : AV}, findIn h ke k es i = some (some (j, v)) → i ≤ j ∧ ∃ e, es[j - i]? = some e ∧ e.2.1 = v
  | [], i, j, v, hf => by simp [findIn] at hf
  | e :: r, i, j, v, hf => by
    simp only [findIn] at hf
    split at hf
    · simp at hf; obtain ⟨rfl, rfl⟩ := hf; exact ⟨Nat.le_refl _, e, by simp, rfl⟩
    · obtain ⟨h1, e', h2, h3⟩ := findIn_get hf
      refine ⟨by omega, e', ?_, h3⟩
      rw [show j - i = (j - (i + 1)) + 1 by omega, List.getElem?_cons_succ]; exact h2
    · cases hf

theorem findKeyIn_get {ke : EqTy} {k : AV} {es : List (AV × AV × Nat)} {j : Nat} {v : AV} (hf : findKeyIn h ke k es = some (some (j, v))) : ∃ e, es[j]? = some e ∧ e.2.1 = v := by
  unfold findKeyIn at hf
  split at hf
  · obtain ⟨_, e, h1, h2⟩ := findIn_get hf; exact ⟨e, by simpa using h1, h2⟩
  · cases hf

theorem stays_run {old new : Value} (h : Instr.sameBits 10000 old new = true) (w : World) : (Instr.keyThatStays old new).run P w = .ok new w := by
  simp [Instr.keyThatStays, h]

theorem mapUpd_sound (hr : Rel P ifs φ w0 h w) {t kt et : TypeId} (ht : P.underlying t = some (.map kt et)) {ke : EqTy} (hk : keyTy P t = some ke) {m k x : AOpd} {m' k' x' : Value} (hm : VR φ (m.ev env) m') (hkv : VR φ (k.ev env) k') (hxv : VR φ (x.ev env) x') {mt : Methods} {call : Callee} {v : AV}
    (hv : evalStrong mt call env h (.mapUpd ke m k x) = some (v, h')) : Strong P ifs φ w0 w h' v (do Instr.mapUpdate t m' k' x'; pure Next.skip) := by
  simp only [evalStrong] at hv
  split at hv
  case h_2 => cases hv
  rename_i r em
  rw [em] at hm
  obtain ⟨b, N, hφ, rfl⟩ := vr_map hm
  split at hv
  case h_2 => cases hv
  rename_i es cl hg
  obtain ⟨E, q1, q2, q3⟩ := hr.mapAt hφ hg
  split at hv
  · rename_i i u hf
    split at hv
    case isFalse => cases hv
    rename_i hsame
    simp only [Option.some.injEq, Prod.mk.injEq] at hv
    obtain ⟨rfl, rfl⟩ := hv
    obtain ⟨hck, r', g1, g2⟩ := findKey_sound hr ht hk hkv q2 hf
    cases r' with
    | none => simp [FR] at g2
    | some p =>
      obtain ⟨j, pv⟩ := p
      simp only [FR] at g2
      obtain ⟨rfl, g3⟩ := g2
      obtain ⟨e, he, _⟩ := findKeyIn_get hf
      obtain ⟨me, k1, k2, k3, k4⟩ := optGet q2 he
      have hE : E[i]? = some me := by simpa using k1
      have hbits : Instr.sameBits 10000 me.key k' = true := by
        unfold sameKeyAt at hsame
        rw [he] at hsame
        exact plainSame_bits hsame k2 hkv
      have hset : setEntry i (k.ev env) (x.ev env) es = es.set i (k.ev env, x.ev env, e.2.2) := by simp [setEntry, he]
      rw [hset]
      obtain ⟨z1, z2, z3⟩ := hr.setMap (cl' := cl) (E' := E.modify i fun e => { e with key := k', val := x' }) hφ hg (by rw [Array.toList_modify]; exact MR.set q2 (fun e => { e with key := k', val := x' }) he hkv hxv (fun m _ => ⟨rfl, rfl, rfl⟩))
      exact ⟨_, _, .skip, by simp [Instr.mapUpdate, run_und w ht, q3, hck, g1, hE, stays_run hbits, z1], rfl, z2, z3⟩
  · rename_i hf
    simp only [Option.some.injEq, Prod.mk.injEq] at hv
    obtain ⟨rfl, rfl⟩ := hv
    obtain ⟨hck, r', g1, g2⟩ := findKey_sound hr ht hk hkv q2 hf
    cases r' with
    | some _ => simp [FR] at g2
    | none =>
      obtain ⟨z1, z2, z3⟩ := hr.setMap (cl' := cl + 1) (E' := E.push { key := k', val := x', born := cl }) hφ hg (by rw [Array.toList_push]; exact MR.append q2 cl hkv hxv)
      exact ⟨_, _, .skip, by simp [Instr.mapUpdate, run_und w ht, q3, hck, g1, z1], rfl, z2, z3⟩
  · cases hv

theorem mapEntry_sound (hr : Rel P ifs φ w0 h w) {t kt et : TypeId} (ht : P.underlying t = some (.map kt et)) {ke : EqTy} (hk : keyTy P t = some ke) {z : AV} (hz : zeroOf P et = some z) {m k : AOpd} {m' k' : Value} (hm : VR φ (m.ev env) m') (hkv : VR φ (k.ev env) k') {mt : Methods} {call : Callee} {v : AV}
    (hv : evalStrong mt call env h (.mapEntry ke z m k) = some (v, h')) : Strong P ifs φ w0 w h' v (do pure (Next.value (← Instr.mapEntry t m' k'))) := by
  obtain ⟨zv, hz1, hz2⟩ := zeroOf_sound hz φ w
  simp only [evalStrong] at hv
  split at hv
  case h_2 => cases hv
  rename_i r em
  rw [em] at hm
  obtain ⟨b, N, hφ, rfl⟩ := vr_map hm
  split at hv
  case h_2 => cases hv
  rename_i es cl hg
  obtain ⟨E, q1, q2, q3⟩ := hr.mapAt hφ hg
  split at hv
  · rename_i i u hf
    split at hv
    case isFalse => cases hv
    rename_i hsame
    simp only [Option.map_eq_some_iff, Prod.mk.injEq] at hv
    obtain ⟨e, he, rfl, rfl⟩ := hv
    obtain ⟨hck, r', g1, g2⟩ := findKey_sound hr ht hk hkv q2 hf
    cases r' with
    | none => simp [FR] at g2
    | some p =>
      obtain ⟨j, pv⟩ := p
      simp only [FR] at g2
      obtain ⟨rfl, g3⟩ := g2
      obtain ⟨me, k1, k2, k3, k4⟩ := optGet q2 he
      have hE : E[i]? = some me := by simpa using k1
      have hbits : Instr.sameBits 10000 me.key k' = true := by
        unfold sameKeyAt at hsame
        rw [he] at hsame
        exact plainSame_bits hsame k2 hkv
      have hset : setEntry i (k.ev env) e.2.1 es = es.set i (k.ev env, e.2.1, e.2.2) := by simp [setEntry, he]
      rw [hset]
      obtain ⟨z1, z2, z3⟩ := hr.setMap (cl' := cl) (E' := E.modify i fun e => { e with key := k' }) hφ hg (by
        rw [Array.toList_modify]
        exact MR.set (v' := me.val) q2 (fun e => { e with key := k' }) he hkv k3 (fun m hm => by
          have : m = me := by rw [k1] at hm; simpa using hm.symm
          subst this; exact ⟨rfl, rfl, rfl⟩))
      refine ⟨_, _, .value (.tuple #[pv, goInt me.born]), by simp [Instr.mapEntry, run_und w ht, q3, hck, g1, hE, stays_run hbits, z1], ?_, z2, z3⟩
      simp only [Out, VR]
      exact ⟨_, rfl, VRs.cons g3 (VRs.cons (by simp [VR, goInt, k4]) VRs.nil)⟩
  · rename_i hf
    simp only [Option.some.injEq, Prod.mk.injEq] at hv
    obtain ⟨rfl, rfl⟩ := hv
    obtain ⟨hck, r', g1, g2⟩ := findKey_sound hr ht hk hkv q2 hf
    cases r' with
    | some _ => simp [FR] at g2
    | none =>
      obtain ⟨z1, z2, z3⟩ := hr.setMap (cl' := cl + 1) (E' := E.push { key := k', val := zv, born := cl }) hφ hg (by rw [Array.toList_push]; exact MR.append q2 cl hkv hz2)
      refine ⟨_, _, .value (.tuple #[zv, goInt cl]), by simp [Instr.mapEntry, run_und w ht, q3, hck, g1, hz1, z1], ?_, z2, z3⟩
      simp only [Out, VR]
      exact ⟨_, rfl, VRs.cons hz2 (VRs.cons (by simp [VR, goInt]) VRs.nil)⟩
  · cases hv

theorem findIdx_mr {n : Int} : ∀ {es : List (AV × AV × Nat)} {l : List MapEntry}, MR φ es l → l.findIdx? (fun e => (e.born : Int) == n) = es.findIdx? (fun e => ((e.2.2 : Nat) : Int) == n)
  | [], l, hm => by simp only [MR] at hm; subst hm; rfl
  | e :: r, l, hm => by
    simp only [MR] at hm
    obtain ⟨m, t, rfl, _, _, h3, h4⟩ := hm
    simp only [List.findIdx?_cons, h3, findIdx_mr h4]

theorem entryStore_sound (hr : Rel P ifs φ w0 h w) (t : TypeId) {m s x : AOpd} {m' s' x' : Value} (hm : VR φ (m.ev env) m') (hsv : VR φ (s.ev env) s') (hxv : VR φ (x.ev env) x') {mt : Methods} {call : Callee} {v : AV}
    (hv : evalStrong mt call env h (.entryStore m s x) = some (v, h')) : Strong P ifs φ w0 w h' v (do Instr.entryStore t m' s' x'; pure Next.skip) := by
  simp only [evalStrong] at hv
  split at hv
  case h_2 => cases hv
  rename_i r k n em es'
  rw [em] at hm
  rw [es'] at hsv
  obtain ⟨b, N, hφ, rfl⟩ := vr_map hm
  obtain rfl := vr_int hsv
  split at hv
  case h_2 => cases hv
  rename_i es cl hg
  obtain ⟨E, q1, q2, q3⟩ := hr.mapAt hφ hg
  split at hv
  case h_2 => cases hv
  rename_i i hi
  simp only [Option.map_eq_some_iff, Prod.mk.injEq] at hv
  obtain ⟨e, he, rfl, rfl⟩ := hv
  obtain ⟨me, k1, k2, k3, k4⟩ := optGet q2 he
  obtain ⟨z1, z2, z3⟩ := hr.setMap (cl' := cl) (E' := E.modify i fun e => { e with val := x' }) hφ hg (by
        rw [Array.toList_modify]
        exact MR.set (k' := me.key) q2 (fun e => { e with val := x' }) he k2 hxv (fun m hm => by
          have : m = me := by rw [k1] at hm; simpa using hm.symm
          subst this; exact ⟨rfl, rfl, rfl⟩))
  have hfi : E.findIdx? (fun e => (e.born : Int) == n) = some i := by
    have hE : E = E.toList.toArray := by simp
    rw [hE, List.findIdx?_toArray, findIdx_mr q2]; exact hi
  exact ⟨_, _, .skip, by simp [Instr.entryStore, q3, asInt, asIntOf, hfi, z1], rfl, z2, z3⟩

theorem delete_sound (hr : Rel P ifs φ w0 h w) {t kt et u : TypeId} (ht : P.underlying t = some (.map kt et)) {ke : EqTy} (hk : keyTy P t = some ke) {m k : AOpd} {m' k' : Value} (hm : VR φ (m.ev env) m') (hkv : VR φ (k.ev env) k') {mt : Methods} {call : Callee} {v : AV} (u' : TypeId)
    (hv : evalStrong mt call env h (.delete ke m k) = some (v, h')) : Strong P ifs φ w0 w h' v (do pure (Next.value (← Builtin.delete_ #[t, u] u' #[m', k']))) := by
  have hund : ∀ {φ : Emb}, Out φ .undef (.value (.tuple #[])) := by
    intro φ
    simp only [Out, AV.undef, VR]; exact ⟨_, rfl, VRs.nil⟩
  simp only [evalStrong] at hv
  split at hv
  · rename_i em
    rw [em] at hm
    obtain rfl := vr_mapNil hm
    split at hv
    case isFalse => cases hv
    rename_i hfit
    simp only [Option.some.injEq, Prod.mk.injEq] at hv
    obtain ⟨rfl, rfl⟩ := hv
    obtain ⟨hck, _⟩ := findKey_sound (es := []) (l := []) (r := none) hr ht hk hkv rfl (by simp [findKeyIn, hfit, findIn])
    exact ⟨_, _, .value (.tuple #[]), by simp [Builtin.delete_, run_und w ht, hck], hund, hr, Stp.refl _ _⟩
  · rename_i r em
    rw [em] at hm
    obtain ⟨b, N, hφ, rfl⟩ := vr_map hm
    split at hv
    case h_2 => cases hv
    rename_i es cl hg
    obtain ⟨E, q1, q2, q3⟩ := hr.mapAt hφ hg
    split at hv
    · rename_i i u hf
      simp only [Option.some.injEq, Prod.mk.injEq] at hv
      obtain ⟨rfl, rfl⟩ := hv
      obtain ⟨hck, r', g1, g2⟩ := findKey_sound hr ht hk hkv q2 hf
      cases r' with
      | none => simp [FR] at g2
      | some p =>
        obtain ⟨j, pv⟩ := p
        simp only [FR] at g2
        obtain ⟨rfl, g3⟩ := g2
        obtain ⟨e, he, _⟩ := findKeyIn_get hf
        obtain ⟨me, k1, _⟩ := optGet q2 he
        have hlt : i < E.size := by have := (List.getElem?_eq_some_iff.1 k1).1; simpa using this
        obtain ⟨z1, z2, z3⟩ := hr.setMap (cl' := cl) (E' := E.eraseIdxIfInBounds i) hφ hg (by
          have : (E.eraseIdxIfInBounds i).toList = E.toList.eraseIdx i := by simp [Array.eraseIdxIfInBounds, hlt]
          rw [this]; exact MR.erase q2 i)
        exact ⟨_, _, .value (.tuple #[]), by simp [Builtin.delete_, run_und w ht, q3, hck, g1, z1], hund, z2, z3⟩
    · rename_i hf
      simp only [Option.some.injEq, Prod.mk.injEq] at hv
      obtain ⟨rfl, rfl⟩ := hv
      obtain ⟨hck, r', g1, g2⟩ := findKey_sound hr ht hk hkv q2 hf
      cases r' with
      | some _ => simp [FR] at g2
      | none =>
        obtain ⟨z1, z2, z3⟩ := hr.setMap (cl' := cl) (E' := E) hφ hg q2
        refine ⟨_, _, .value (.tuple #[]), by simp [Builtin.delete_, run_und w ht, q3, hck, g1, z1], hund, z2.congr rfl (fun j => ?_), z3⟩
        by_cases ej : j = r
        · subst ej; rw [AH.get_set_same (by rw [hg]; simp), hg]
        · rw [AH.get_set_other (fun x => ej x.symm)]
    · cases hv
  · cases hv

/-! ### Iterators -/
theorem rangeStr_sound (hr : Rel P ifs φ w0 h w) {t : TypeId} (ht : P.underlying t = some .string) {s : List Nat} {x' : Value} (hx : VR φ (.str s) x') : Strong P ifs φ w0 w (h.push (.strIter s 0)) (.ptr (some (h.next, 0))) (do pure (Next.value (← Instr.range t x'))) := by
  obtain ⟨b, rfl, rfl⟩ := vr_str hx
  obtain ⟨k1, k2⟩ := hr.push (.strIter (b.data.toList.map UInt8.toNat) 0) (.stringIter b 0) 0 ⟨rfl, b, rfl, rfl⟩
  exact ⟨_, _, .value (.pointer (some ⟨w.heap.size, 0, none⟩)), by simp [Instr.range, run_und w ht], vr_newPtr _ _ _ _, k1, k2⟩

theorem rangeMap_sound (hr : Rel P ifs φ w0 h w) {t kt et : TypeId} (ht : P.underlying t = some (.map kt et)) {x : AOpd} {x' : Value} (hx : VR φ (x.ev env) x') {mt : Methods} {call : Callee} {v : AV} (hv : evalStrong mt call env h (.rangeMap x) = some (v, h')) :
    Strong P ifs φ w0 w h' v (do pure (Next.value (← Instr.range t x'))) := by
  simp only [evalStrong] at hv
  split at hv
  · rename_i ex
    rw [ex] at hx
    obtain rfl := vr_mapNil hx
    simp only [Option.some.injEq, Prod.mk.injEq] at hv
    obtain ⟨rfl, rfl⟩ := hv
    obtain ⟨k1, k2⟩ := hr.push (.mapIter none 0 [] 0) (.mapIter none 0 #[] 0) 0 ⟨rfl, none, rfl, by simp [VR]⟩
    exact ⟨_, _, .value (.pointer (some ⟨w.heap.size, 0, none⟩)), by simp [Instr.range, run_und w ht], vr_newPtr _ _ _ _, k1, k2⟩
  · rename_i r ex
    rw [ex] at hx
    split at hv
    case h_2 => cases hv
    rename_i es cl hg
    simp only [Option.some.injEq, Prod.mk.injEq] at hv
    obtain ⟨rfl, rfl⟩ := hv
    obtain ⟨b, N, hφ, rfl⟩ := vr_map hx
    obtain ⟨E, q1, q2, q3⟩ := hr.mapAt hφ hg
    obtain ⟨k1, k2⟩ := hr.push (.mapIter (some r) cl [] cl) (.mapIter (some b) cl #[] cl) 0 ⟨rfl, some b, rfl, VR.ext (ext_upd hr.none_next) _ _ hx⟩
    exact ⟨_, _, .value (.pointer (some ⟨w.heap.size, 0, none⟩)), by simp [Instr.range, run_und w ht, q3], vr_newPtr _ _ _ _, k1, k2⟩
  · cases hv

theorem Rel.iterAt (hr : Rel P ifs φ w0 h w) {r : Nat} {x' : Value} (hx : VR φ (.ptr (some (r, 0))) x') {b : ABlk} (hg : h.get r = b) (hb : (∃ s p, b = .strIter s p) ∨ (∃ m s q st, b = .mapIter m s q st)) :
    ∃ bk N o, φ r = some (bk, 0, N) ∧ x' = .pointer (some ⟨bk, 0, none⟩) ∧ w.heap[bk]? = some o ∧ BR P ifs φ b o 0 N := by
  obtain ⟨bk, co, N, hφ, rfl⟩ := vr_ptr hx
  obtain ⟨o, h1, h2⟩ := hr.blk _ _ _ _ hφ
  simp only at hφ h2
  rw [hg] at h2
  rcases hb with ⟨s, p, rfl⟩ | ⟨m, s, q, st, rfl⟩
  · have h3 := h2
    obtain ⟨rfl, _⟩ := h2
    exact ⟨bk, N, o, hφ, by simp, h1, h3⟩
  · have h3 := h2
    obtain ⟨rfl, _⟩ := h2
    exact ⟨bk, N, o, hφ, by simp, h1, h3⟩

theorem decode_ascii {s : ByteArray} {pos b : Nat} (hs : (s.data.toList.map UInt8.toNat)[pos]? = some b) (hb : b < 128) : Utf8.decode s pos = (b, 1) ∧ pos < s.size := by
  simp only [List.getElem?_map, Option.map_eq_some_iff] at hs
  obtain ⟨u, hu, rfl⟩ := hs
  have hlt : pos < s.data.size := by have := (List.getElem?_eq_some_iff.1 hu).1; simpa using this
  have hget : s.get! pos = u := by
    have : s.data[pos]? = some u := by simpa using hu
    show s.data[pos]! = u
    rw [getElem!_def, this]
  refine ⟨?_, hlt⟩
  unfold Utf8.decode
  simp [hget, hb]

theorem octets_back (t : ByteArray) : (⟨((t.data.toList.map UInt8.toNat).map UInt8.ofNat).toArray⟩ : ByteArray) = t := by
  have : (t.data.toList.map UInt8.toNat).map UInt8.ofNat = t.data.toList := by
    rw [List.map_map]
    conv => rhs; rw [← List.map_id t.data.toList]
    refine List.map_congr_left fun b _ => ?_
    simp
  rw [this]

theorem nextStr_sound (hr : Rel P ifs φ w0 h w) (ty : TypeId) {x : AOpd} {x' : Value} (hx : VR φ (x.ev env) x') {mt : Methods} {call : Callee} {v : AV} (hv : evalStrong mt call env h (.nextStr x) = some (v, h')) :
    Strong P ifs φ w0 w h' v (do pure (Next.value (← Instr.next x' true ty))) := by
  simp only [evalStrong] at hv
  split at hv
  case h_2 => cases hv
  rename_i r ex
  rw [ex] at hx
  split at hv
  case h_2 => cases hv
  rename_i s pos hg
  obtain ⟨bk, N, o, hφ, rfl, h1, h2⟩ := hr.iterAt hx hg (.inl ⟨_, _, rfl⟩)
  obtain ⟨_, t, rfl, rfl⟩ := h2
  have hget : (getObj bk).run P w = .ok (.stringIter t pos) w := hr.getObj hφ h1 (by simp)
  split at hv
  · rename_i b hb
    split at hv
    case isFalse =>
      simp only [Option.some.injEq, Prod.mk.injEq] at hv
      obtain ⟨rfl, rfl⟩ := hv
      have hp : pos < t.size := by have := (List.getElem?_eq_some_iff.1 hb).1; simpa using this
      have hd : runeAt (t.data.toList.map UInt8.toNat) pos = Utf8.decode t pos := by rw [runeAt, octets_back]
      rw [hd]
      obtain ⟨k1, k2⟩ := hr.setObj (blk := .strIter (t.data.toList.map UInt8.toNat) (pos + (Utf8.decode t pos).2)) (o := .stringIter t (pos + (Utf8.decode t pos).2)) hφ (by rw [hg]; simp) (by rw [hg]; rfl) rfl ⟨rfl, t, rfl, rfl⟩
      refine ⟨_, _, .value (.tuple #[.bool true, goInt pos, .int .i32 (Utf8.decode t pos).1]), by simp [Instr.next, hget, hp, run_setObjX h1 (by simp)], ?_, k1, k2⟩
      simp only [Out, VR]
      exact ⟨_, rfl, VRs.cons (by simp [VR]) (VRs.cons (by simp [VR, goInt]) (VRs.cons (by simp [VR]) VRs.nil))⟩
    rename_i hlt
    simp only [Option.some.injEq, Prod.mk.injEq] at hv
    obtain ⟨rfl, rfl⟩ := hv
    obtain ⟨hd, hp⟩ := decode_ascii hb hlt
    obtain ⟨k1, k2⟩ := hr.setObj (blk := .strIter (t.data.toList.map UInt8.toNat) (pos + 1)) (o := .stringIter t (pos + 1)) hφ (by rw [hg]; simp) (by rw [hg]; rfl) rfl ⟨rfl, t, rfl, rfl⟩
    refine ⟨_, _, .value (.tuple #[.bool true, goInt pos, .int .i32 b]), by simp [Instr.next, hget, hp, hd, run_setObjX h1 (by simp)], ?_, k1, k2⟩
    simp only [Out, VR]
    exact ⟨_, rfl, VRs.cons (by simp [VR]) (VRs.cons (by simp [VR, goInt]) (VRs.cons (by simp [VR]) VRs.nil))⟩
  · rename_i hb
    simp only [Option.some.injEq, Prod.mk.injEq] at hv
    obtain ⟨rfl, rfl⟩ := hv
    have hp : ¬ (pos < t.size) := by
      have : t.data.toList.length ≤ pos := by simpa using hb
      simp at this; omega
    refine ⟨_, _, .value (.tuple #[.bool false]), by simp [Instr.next, hget, hp], ?_, hr, Stp.refl _ _⟩
    simp only [Out, VR]
    exact ⟨_, rfl, VRs.cons (by simp [VR]) VRs.nil⟩

theorem MR.filter (p : Nat → Bool) : ∀ {es : List (AV × AV × Nat)} {l : List MapEntry}, MR φ es l → MR φ (es.filter fun e => p e.2.2) (l.filter fun e => p e.born)
  | [], l, hm => by simp only [MR] at hm; subst hm; rfl
  | e :: r, l, hm => by
    simp only [MR] at hm
    obtain ⟨m, t, rfl, h1, h2, h3, h4⟩ := hm
    simp only [List.filter_cons, h3]
    split
    · simp only [MR]; exact ⟨m, _, rfl, h1, h2, h3, MR.filter p h4⟩
    · exact MR.filter p h4

theorem MR.app : ∀ {es es2 : List (AV × AV × Nat)} {l l2 : List MapEntry}, MR φ es l → MR φ es2 l2 → MR φ (es ++ es2) (l ++ l2)
  | [], es2, l, l2, hm, h2 => by simp only [MR] at hm; subst hm; exact h2
  | e :: r, es2, l, l2, hm, hm2 => by
    simp only [MR] at hm
    obtain ⟨m, t, rfl, h1, h2, h3, h4⟩ := hm
    simp only [List.cons_append, MR]
    exact ⟨m, _, rfl, h1, h2, h3, MR.app h4 hm2⟩

theorem MR.all (p : Nat → Bool) : ∀ {es : List (AV × AV × Nat)} {l : List MapEntry}, MR φ es l → (l.all fun e => p e.born) = es.all fun e => p e.2.2
  | [], l, hm => by simp only [MR] at hm; subst hm; rfl
  | e :: r, l, hm => by
    simp only [MR] at hm
    obtain ⟨m, t, rfl, h1, h2, h3, h4⟩ := hm
    simp only [List.all_cons, h3, MR.all p h4]

theorem MR.isEmpty : ∀ {es : List (AV × AV × Nat)} {l : List MapEntry}, MR φ es l → l.isEmpty = es.isEmpty
  | [], l, hm => by simp only [MR] at hm; subst hm; rfl
  | e :: r, l, hm => by
    simp only [MR] at hm
    obtain ⟨m, t, rfl, _⟩ := hm
    rfl

theorem MR.find (n : Nat) : ∀ {es : List (AV × AV × Nat)} {l : List MapEntry} {e : AV × AV × Nat}, MR φ es l → (es.find? fun e => e.2.2 == n) = some e → ∃ m, (l.find? fun m => m.born == n) = some m ∧ VR φ e.1 m.key ∧ VR φ e.2.1 m.val
  | [], l, e, hm, hf => by simp at hf
  | x :: r, l, e, hm, hf => by
    simp only [MR] at hm
    obtain ⟨m, t, rfl, h1, h2, h3, h4⟩ := hm
    simp only [List.find?_cons, h3] at hf ⊢
    split at hf
    · simp at hf; subst hf; exact ⟨m, rfl, h1, h2⟩
    · exact MR.find n h4 hf

theorem cand_some {es : List (AV × AV × Nat)} {l : List MapEntry} (hm : MR φ es l) {b : Bool} {e : AV × AV × Nat} (h : (if b then [none] else []) ++ es.map some = [some e]) :
    ∃ m : MapEntry, (if b then [none] else []) ++ l.map some = [some m] ∧ VR φ e.1 m.key ∧ VR φ e.2.1 m.val ∧ m.born = e.2.2 := by
  cases b with
  | true => simp at h
  | false =>
    simp at h
    cases es with
    | nil => simp at h
    | cons x r =>
      simp at h
      obtain ⟨rfl, rfl⟩ := h
      simp only [MR] at hm
      obtain ⟨m, t, rfl, h1, h2, h3, rfl⟩ := hm
      exact ⟨m, by simp, h1, h2, h3⟩

theorem cand_none {es : List (AV × AV × Nat)} {l : List MapEntry} (hm : MR φ es l) {b : Bool} (h : (if b then [none] else []) ++ es.map some = [none]) :
    (if b then [none] else []) ++ l.map some = [(none : Option MapEntry)] := by
  cases b with
  | true =>
    simp at h
    subst h
    simp only [MR] at hm; subst hm; rfl
  | false => cases es <;> simp at h

theorem nextMap_sound (hr : Rel P ifs φ w0 h w) (ty : TypeId) {x : AOpd} {x' : Value} (hx : VR φ (x.ev env) x') {mt : Methods} {call : Callee} {v : AV} (hv : evalStrong mt call env h (.nextMap x) = some (v, h')) :
    Strong P ifs φ w0 w h' v (do pure (Next.value (← Instr.next x' false ty))) := by
  have over : ∀ {φ : Emb}, Out φ (.tuple [.bool false]) (.value (.tuple #[.bool false])) := by
    intro φ
    simp only [Out, VR]; exact ⟨_, rfl, VRs.cons (by simp [VR]) VRs.nil⟩
  simp only [evalStrong] at hv
  split at hv
  case h_2 => cases hv
  rename_i r ex
  rw [ex] at hx
  split at hv
  · rename_i s1 s2 s3 hg
    simp only [Option.some.injEq, Prod.mk.injEq] at hv
    obtain ⟨rfl, rfl⟩ := hv
    obtain ⟨bk, N, o, hφ, rfl, h1, h2⟩ := hr.iterAt hx hg (.inr ⟨_, _, _, _, rfl⟩)
    obtain ⟨_, m', rfl, h3⟩ := h2
    obtain rfl : m' = none := by simpa [VR] using h3
    have hget : (getObj bk).run P w = .ok _ w := hr.getObj hφ h1 (by simp)
    exact ⟨_, _, .value (.tuple #[.bool false]), by simp [Instr.next, hget], over, hr, Stp.refl _ _⟩
  · rename_i m since seen last hg
    split at hv
    case h_2 => cases hv
    rename_i es cl hgm
    obtain ⟨bk, N, o, hφ, rfl, h1, h2⟩ := hr.iterAt hx hg (.inr ⟨_, _, _, _, rfl⟩)
    obtain ⟨_, m', rfl, h3⟩ := h2
    obtain ⟨bm, Nm, hφm, h4⟩ := vr_map h3
    obtain rfl : m' = some bm := by simpa using h4
    have hget : (getObj bk).run P w = .ok _ w := hr.getObj hφ h1 (by simp)
    obtain ⟨E, q1, q2, q3⟩ := hr.mapAt hφm hgm
    split at hv
    · cases hv
    rename_i hgone
    obtain ⟨l⟩ := E
    simp only at q2
    have hleft := MR.filter (fun n => !seen.contains n) q2
    have hold := MR.filter (fun n => decide (n < since)) hleft
    have hnew := MR.filter (fun n => decide (n ≥ since)) hleft
    have hboth := MR.app hold hnew
    have hgone' : (!seen.toArray.isEmpty && !l.toArray.isEmpty && l.toArray.all (·.born ≥ last)) = false := by
      have e1 := MR.all (fun n => decide (n ≥ last)) q2
      have e2 := q2.isEmpty
      simp only [Bool.not_eq_true] at hgone
      rw [← hgone]
      simp [e1, e2]
    have hgone2 : ¬ ((seen = [] → False) ∧ (l = [] → False) ∧ ∀ x ∈ l, last ≤ x.born) := by
      intro hh
      have : (!seen.toArray.isEmpty && !l.toArray.isEmpty && l.toArray.all (·.born ≥ last)) = true := by
        simp only [Bool.and_eq_true]
        refine ⟨⟨?_, ?_⟩, ?_⟩
        · cases seen <;> simp_all
        · cases l <;> simp_all
        · simpa using hh.2.2
      rw [hgone'] at this; cases this
    have harr : ∀ (cands : List (Option MapEntry)), (if ((l.filter fun e => !seen.contains e.born).filter fun e => decide (e.born < since)).isEmpty then [none] else []) ++ (((l.filter fun e => !seen.contains e.born).filter fun e => decide (e.born < since)) ++ ((l.filter fun e => !seen.contains e.born).filter fun e => decide (e.born ≥ since))).map some = cands →
        ((if ((l.toArray.filter fun e => !seen.toArray.contains e.born).filter (·.born < since)).isEmpty then #[none] else #[]) ++ ((((l.toArray.filter fun e => !seen.toArray.contains e.born).filter (·.born < since)) ++ ((l.toArray.filter fun e => !seen.toArray.contains e.born).filter (·.born ≥ since))).map some) : Array (Option MapEntry)) = cands.toArray := by
      intro cands hc
      have a1 : (l.toArray.filter fun e => !seen.toArray.contains e.born) = (l.filter fun e => !seen.contains e.born).toArray := by simp
      rw [a1, List.filter_toArray, List.filter_toArray, ← hc]
      generalize (List.filter (fun e => decide (e.born < since)) (List.filter (fun e => !seen.contains e.born) l)) = O
      generalize (List.filter (fun e => decide (e.born ≥ since)) (List.filter (fun e => !seen.contains e.born) l)) = Nw
      cases O <;> simp
    split at hv
    · rename_i e hcand
      simp only [Option.some.injEq, Prod.mk.injEq] at hv
      obtain ⟨rfl, rfl⟩ := hv
      rw [← hold.isEmpty] at hcand
      obtain ⟨me, k1, k2, k3, k4⟩ := cand_some hboth hcand
      have k1' := harr _ k1
      obtain ⟨z1, z2⟩ := hr.setObj (blk := .mapIter (some m) since (seen ++ [e.2.2]) cl) (o := .mapIter (some bm) since (seen.toArray.push me.born) cl) hφ (by rw [hg]; simp) (by rw [hg]; rfl) rfl ⟨rfl, some bm, by rw [k4]; simp, h3⟩
      refine ⟨_, _, .value (.tuple #[.bool true, me.key, me.val]), ?_, ?_, z1, z2⟩
      · unfold Instr.next
        simp only [Sem.run_bind, hget, Result.andThen_ok, q3, hgone', Bool.false_eq_true, if_false, k1', Sem.run_pure]
        simp [Question.forced, run_setObjX h1]
      · simp only [Out, VR]
        exact ⟨_, rfl, VRs.cons (by simp [VR]) (VRs.cons k2 (VRs.cons k3 VRs.nil))⟩
    · rename_i hcand
      simp only [Option.some.injEq, Prod.mk.injEq] at hv
      obtain ⟨rfl, rfl⟩ := hv
      rw [← hold.isEmpty] at hcand
      have k1' := harr _ (cand_none hboth hcand)
      refine ⟨_, _, .value (.tuple #[.bool false]), ?_, over, hr, Stp.refl _ _⟩
      unfold Instr.next
      simp only [Sem.run_bind, hget, Result.andThen_ok, q3, hgone', Bool.false_eq_true, if_false, k1', Sem.run_pure]
      simp [Question.forced]
    · cases hv
  · cases hv

theorem entry_sound (hr : Rel P ifs φ w0 h w) {x : AOpd} {x' : Value} (hx : VR φ (x.ev env) x') {mt : Methods} {call : Callee} {v : AV} (hv : evalStrong mt call env h (.entry x) = some (v, h')) :
    Strong P ifs φ w0 w h' v (do pure (Next.value (← Instr.entry x'))) := by
  simp only [evalStrong] at hv
  split at hv
  case h_2 => cases hv
  rename_i r ex
  rw [ex] at hx
  split at hv
  case h_2 => cases hv
  rename_i m since seen last hg
  split at hv
  case h_2 => cases hv
  rename_i es cl hgm
  split at hv
  case isFalse => cases hv
  rename_i hcl
  split at hv
  case h_2 => cases hv
  rename_i stamp hst
  simp only [Option.map_eq_some_iff, Prod.mk.injEq] at hv
  obtain ⟨e, he, rfl, rfl⟩ := hv
  obtain ⟨bk, N, o, hφ, rfl, h1, h2⟩ := hr.iterAt hx hg (.inr ⟨_, _, _, _, rfl⟩)
  obtain ⟨_, m', rfl, h3⟩ := h2
  obtain ⟨bm, Nm, hφm, h4⟩ := vr_map h3
  obtain rfl : m' = some bm := by simpa using h4
  have hget : (getObj bk).run P w = .ok _ w := hr.getObj hφ h1 (by simp)
  obtain ⟨E, q1, q2, q3⟩ := hr.mapAt hφm hgm
  obtain ⟨me, k1, k2, k3⟩ := MR.find stamp q2 he
  have hfind : E.find? (·.born == stamp) = some me := by
    have hE : E = E.toList.toArray := by simp
    rw [hE, List.find?_toArray]; exact k1
  refine ⟨_, _, .value (.tuple #[me.key, me.val]), by simp [Instr.entry, hget, q3, hst, hcl, hfind], ?_, hr, Stp.refl _ _⟩
  simp only [Out, VR]
  exact ⟨_, rfl, VRs.cons k2 (VRs.cons k3 VRs.nil)⟩
end
end Go.Proofs.YtjihmonajekomaaGreatDoor.Ax
