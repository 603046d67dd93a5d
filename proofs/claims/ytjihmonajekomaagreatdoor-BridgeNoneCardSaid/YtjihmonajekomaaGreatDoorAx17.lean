/- A region whose order is open: whichever order, what the evaluator computed in the text's order. Conditions: as each theorem states. -/
import Derived.Test.YtjihmonajekomaaGreatDoorAx16
namespace Go.Proofs.YtjihmonajekomaaGreatDoor.Ax
open Go Go.RowKit
set_option linter.unusedVariables false

mutual
theorem AV.same_eq : ∀ (a b : AV), AV.same a b = true → a = b
  | .bool a, b, h => by cases b <;> simp [AV.same] at h; rw [h]
  | .int k a, b, h => by cases b <;> simp [AV.same] at h; rw [h.1, h.2]
  | .str s, b, h => by cases b <;> simp [AV.same] at h; rw [h]
  | .ptr a, b, h => by cases b <;> simp [AV.same] at h; rw [h]
  | .slice a n c e, b, h => by cases b <;> simp [AV.same] at h; obtain ⟨⟨⟨h1, h2⟩, h3⟩, h4⟩ := h; rw [h1, h2, h3, h4]
  | .map a, b, h => by cases b <;> simp [AV.same] at h; rw [h]
  | .func f xs ys, b, h => by
    cases b <;> simp [AV.same] at h
    obtain ⟨⟨h1, h2⟩, h3⟩ := h
    rw [h1, AV.sames_eq _ _ h2, AV.sames_eq _ _ h3]
  | .nilFunc, b, h => by cases b <;> simp [AV.same] at h; rfl
  | .iface t v, b, h => by
    cases b <;> simp [AV.same] at h
    rw [h.1, AV.same_eq _ _ h.2]
  | .nilIface, b, h => by cases b <;> simp [AV.same] at h; rfl
  | .agg xs, b, h => by
    cases b <;> simp [AV.same] at h
    rw [AV.sames_eq _ _ h]
  | .tuple xs, b, h => by
    cases b <;> simp [AV.same] at h
    rw [AV.sames_eq _ _ h]
theorem AV.sames_eq : ∀ (a b : List AV), AV.sames a b = true → a = b
  | [], b, h => by cases b <;> simp [AV.sames] at h; rfl
  | x :: xs, b, h => by
    cases b <;> simp [AV.sames] at h
    rw [AV.same_eq _ _ h.1, AV.sames_eq _ _ h.2]
end

def StepOk (mt : Methods) (call : Callee) (hs : List AH) (cs : List Chk) (o : AOper) (env : List AV) (c : Nat) (v : AV) (c1 : Nat) : Prop :=
  c1 = (if isStrong o.op then c + 1 else c) ∧
  (wanted env o.guard = false → v = .undef ∧ (isStrong o.op = true → ∃ h, hs[c]? = some h ∧ hs[c + 1]? = some h)) ∧
  (wanted env o.guard = true →
    (o.op.kind = .pure → evalPure (mask o.names env) o.op = some v) ∧
    (o.op.kind = .weak → (⟨mask o.names env, o.op, o.lo, o.hi, v⟩ : Chk) ∈ cs) ∧
    (o.op.kind = .strong → ∃ h h1, hs[c]? = some h ∧ hs[c + 1]? = some h1 ∧ evalStrong mt call (mask o.names env) h o.op = some (v, h1)))

def Tr (mt : Methods) (call : Callee) (hs : List AH) (cs : List Chk) : List AOper → List AV → Nat → List AV → Nat → Prop
  | [], env, c, env', c' => env = env' ∧ c = c'
  | o :: r, env, c, env', c' => ∃ v c1, StepOk mt call hs cs o env c v c1 ∧ Tr mt call hs cs r (putEnv env o.dst v) c1 env' c'

section
variable {mt : Methods} {call : Callee}

theorem kind_strong {o : AOp} : isStrong o = true ↔ o.kind = .strong := by
  unfold isStrong
  cases o.kind <;> simp

theorem last_get {α : Type} {l t : List α} {c : Nat} {x : α} (hl : l.length = c + 1) (h : l[c]? = some x) : (l ++ t)[c]? = some x := by
  rw [List.getElem?_append_left (by omega)]; exact h

theorem runDraw_tr : ∀ (l : List AOper) (env : List AV) (h : AH) (hs0 : List AH) (cs0 : List Chk) (env' : List AV) (h' : AH) (hs : List AH) (cs : List Chk) (c : Nat), runDraw mt call l env h hs0 cs0 = some (env', h', hs, cs) → hs0[c]? = some h → hs0.length = c + 1 →
    ∃ c', (∃ t, hs = hs0 ++ t) ∧ (∀ x ∈ cs0, x ∈ cs) ∧ hs.length = c' + 1 ∧ hs[c']? = some h' ∧ Tr mt call hs cs l env c env' c'
  | [], env, h, hs0, cs0, env', h', hs, cs, c, hrun, hc, hl => by
    simp only [runDraw, Option.some.injEq, Prod.mk.injEq] at hrun
    obtain ⟨rfl, rfl, rfl, rfl⟩ := hrun
    exact ⟨c, ⟨[], by simp⟩, fun _ hx => hx, hl, hc, rfl, rfl⟩
  | o :: r, env, h, hs0, cs0, env', h', hs, cs, c, hrun, hc, hl => by
    simp only [runDraw] at hrun
    split at hrun
    · rename_i hw
      split at hrun
      · rename_i hk
        split at hrun
        case h_2 => cases hrun
        rename_i v hv
        obtain ⟨c', k1, k2, k3, k4, k5⟩ := runDraw_tr r _ _ _ _ _ _ _ _ c hrun hc hl
        have hns : isStrong o.op = false := by simp [isStrong, hk]
        exact ⟨c', k1, k2, k3, k4, v, c, ⟨by simp [hns], fun x => (by rw [hw] at x; cases x), fun _ => ⟨fun _ => hv, fun x => (by rw [hk] at x; cases x), fun x => (by rw [hk] at x; cases x)⟩⟩, k5⟩
      · rename_i hk
        split at hrun
        case h_2 => cases hrun
        rename_i v hv
        obtain ⟨c', k1, k2, k3, k4, k5⟩ := runDraw_tr r _ _ _ _ _ _ _ _ c hrun hc hl
        have hns : isStrong o.op = false := by simp [isStrong, hk]
        exact ⟨c', k1, fun x hx => k2 x (List.mem_cons_of_mem _ hx), k3, k4, v, c, ⟨by simp [hns], fun x => (by rw [hw] at x; cases x), fun _ => ⟨fun x => (by rw [hk] at x; cases x), fun _ => k2 _ (by simp), fun x => (by rw [hk] at x; cases x)⟩⟩, k5⟩
      · rename_i hk
        split at hrun
        case h_2 => cases hrun
        rename_i v h1 hv
        obtain ⟨c', ⟨t, k1⟩, k2, k3, k4, k5⟩ := runDraw_tr r _ _ _ _ _ _ _ _ (c + 1) hrun (by rw [List.getElem?_append_right (by omega)]; simp [hl]) (by simp [hl])
        have hs1 : isStrong o.op = true := kind_strong.2 hk
        refine ⟨c', ⟨h1 :: t, by rw [k1]; simp⟩, k2, k3, k4, v, c + 1, ⟨by simp [hs1], fun x => (by rw [hw] at x; cases x), fun _ => ⟨fun x => (by rw [hk] at x; cases x), fun x => (by rw [hk] at x; cases x), fun _ => ⟨h, h1, ?_, ?_, hv⟩⟩⟩, k5⟩
        · rw [k1, List.append_assoc]; exact last_get hl hc
        · rw [k1]; exact last_get (by simp [hl]) (by rw [List.getElem?_append_right (by omega)]; simp [hl])
    · rename_i hw
      have hw : wanted env o.guard = false := by simpa using hw
      by_cases hk : o.op.kind = .strong
      · rw [hk] at hrun
        dsimp only at hrun
        obtain ⟨c', ⟨t, k1⟩, k2, k3, k4, k5⟩ := runDraw_tr r _ _ _ _ _ _ _ _ (c + 1) hrun (by rw [List.getElem?_append_right (by omega)]; simp [hl]) (by simp [hl])
        have hs1 : isStrong o.op = true := kind_strong.2 hk
        refine ⟨c', ⟨h :: t, by rw [k1]; simp⟩, k2, k3, k4, .undef, c + 1, ⟨by simp [hs1], fun _ => ⟨rfl, fun _ => ⟨h, ?_, ?_⟩⟩, fun x => (by rw [hw] at x; cases x)⟩, k5⟩
        · rw [k1, List.append_assoc]; exact last_get hl hc
        · rw [k1]; exact last_get (by simp [hl]) (by rw [List.getElem?_append_right (by omega)]; simp [hl])
      · have hrun' : runDraw mt call r (putEnv env o.dst .undef) h hs0 cs0 = some (env', h', hs, cs) := by
          cases e : o.op.kind <;> rw [e] at hrun <;> first | exact hrun | exact absurd e hk
        obtain ⟨c', k1, k2, k3, k4, k5⟩ := runDraw_tr r _ _ _ _ _ _ _ _ c hrun' hc hl
        have hns : isStrong o.op = false := by
          cases e : isStrong o.op with
          | false => rfl
          | true => exact absurd (kind_strong.1 e) hk
        exact ⟨c', k1, k2, k3, k4, .undef, c, ⟨by simp [hns], fun _ => ⟨rfl, fun x => (by rw [hns] at x; cases x)⟩, fun x => (by rw [hw] at x; cases x)⟩, k5⟩

theorem Tr.fun {hs : List AH} {cs : List Chk} : ∀ {l : List AOper} {env : List AV} {c : Nat} {env' : List AV} {c' : Nat}, Tr mt call hs cs l env c env' c' →
    ∃ (E : Nat → List AV) (V : Nat → AV) (C : Nat → Nat), E 0 = env ∧ C 0 = c ∧ E l.length = env' ∧ C l.length = c' ∧ ∀ (i : Nat) (o : AOper), l[i]? = some o → StepOk mt call hs cs o (E i) (C i) (V i) (C (i + 1)) ∧ E (i + 1) = putEnv (E i) o.dst (V i)
  | [], env, c, env', c', ht => by
    obtain ⟨rfl, rfl⟩ := ht
    exact ⟨fun _ => env, fun _ => .undef, fun _ => c, rfl, rfl, rfl, rfl, fun i o h => by simp at h⟩
  | o :: r, env, c, env', c', ht => by
    obtain ⟨v, c1, h1, h2⟩ := ht
    obtain ⟨E, V, C, e0, c0, e1, c2, hst⟩ := Tr.fun h2
    refine ⟨fun i => match i with | 0 => env | i + 1 => E i, fun i => match i with | 0 => v | i + 1 => V i, fun i => match i with | 0 => c | i + 1 => C i, rfl, rfl, e1, c2, fun i o' ho => ?_⟩
    cases i with
    | zero => simp at ho; subst ho; exact ⟨by simp only [c0]; exact h1, by simp only [e0]⟩
    | succ i => exact hst i o' (by simpa using ho)

/-! ### Slots' values -/
def wr (l : List AOper) (k t : Nat) : Bool := match l[k]? with | some o => o.dst == some t | none => false

def valAt (l : List AOper) (V : Nat → AV) (env0 : List AV) (S : Nat → Bool) : Nat → Nat → AV
  | 0, t => env0.getD t .undef
  | k + 1, t => if S k && wr l k t then V k else valAt l V env0 S k t

variable {l : List AOper} {V : Nat → AV} {env0 : List AV}

theorem valAt_congr {S S' : Nat → Bool} {t : Nat} : ∀ (n : Nat), (∀ k, k < n → wr l k t = true → S k = S' k) → valAt l V env0 S n t = valAt l V env0 S' n t
  | 0, _ => rfl
  | n + 1, h => by
    simp only [valAt]
    by_cases hw : wr l n t = true
    · rw [h n (Nat.lt_succ_self _) hw, valAt_congr n (fun k hk => h k (by omega))]
    · simp only [hw, Bool.and_false]
      exact valAt_congr n (fun k hk => h k (by omega))

theorem valAt_none {S : Nat → Bool} {t i : Nat} : ∀ (n : Nat), i ≤ n → (∀ k, i ≤ k → k < n → wr l k t = true → S k = false) → valAt l V env0 S n t = valAt l V env0 S i t
  | 0, h, _ => by rw [Nat.le_zero.1 h]
  | n + 1, h, hk => by
    by_cases e : i = n + 1
    · rw [e]
    · simp only [valAt]
      have : (S n && wr l n t) = false := by
        by_cases hw : wr l n t = true
        · rw [hk n (by omega) (Nat.lt_succ_self _) hw]; rfl
        · simp [hw]
      rw [this]
      exact valAt_none n (by omega) (fun k h1 h2 => hk k h1 (by omega))

theorem putEnv_len (env : List AV) (d : Option Nat) (v : AV) : (putEnv env d v).length = env.length := by cases d <;> simp [putEnv]

theorem E_len {E : Nat → List AV} (h0 : E 0 = env0) (hE : ∀ (i : Nat) (o : AOper), l[i]? = some o → E (i + 1) = putEnv (E i) o.dst (V i)) : ∀ i, i ≤ l.length → (E i).length = env0.length
  | 0, _ => by rw [h0]
  | i + 1, h => by
    have hi : i < l.length := by omega
    rw [hE i l[i] (by simp [hi]), putEnv_len, E_len h0 hE i (by omega)]

theorem E_val {E : Nat → List AV} (h0 : E 0 = env0) (hE : ∀ (i : Nat) (o : AOper), l[i]? = some o → E (i + 1) = putEnv (E i) o.dst (V i)) : ∀ i, i ≤ l.length → ∀ t, t < env0.length → (E i).getD t .undef = valAt l V env0 (fun _ => true) i t
  | 0, _, t, _ => by rw [h0]; rfl
  | i + 1, h, t, ht => by
    have hi : i < l.length := by omega
    have ho : l[i]? = some l[i] := by simp [hi]
    have hlen := E_len h0 hE i (by omega)
    simp only [valAt, wr, ho, Bool.true_and]
    rw [hE i l[i] ho]
    cases e : l[i].dst with
    | none =>
      simp only [putEnv]
      have : ((none : Option Nat) == some t) = false := rfl
      rw [this]
      simpa using E_val h0 hE i (by omega) t ht
    | some d =>
      simp only [putEnv]
      by_cases hd : d = t
      · subst hd
        have : (some d == some d) = true := by simp
        rw [this]
        simp [List.getD, List.getElem?_set, hlen, ht]
      · have : (some d == some t) = false := by simpa using hd
        rw [this]
        have := E_val h0 hE i (by omega) t ht
        simp only [List.getD, List.getElem?_set, hd, if_false, Bool.false_eq_true] at this ⊢
        exact this

theorem mask_get {names : List Nat} {env : List AV} {t : Nat} (ht : names.contains t = true) : (mask names env).getD t .undef = env.getD t .undef := by
  have : ∀ (env : List AV) (i t : Nat), names.contains (i + t) = true → (maskFrom names i env).getD t .undef = env.getD t .undef := by
    intro env
    induction env with
    | nil => intro i t _; rfl
    | cons v r ih =>
      intro i t ht
      cases t with
      | zero => simp only [maskFrom]; simp at ht; simp [ht]
      | succ t => simp only [maskFrom, List.getD_cons_succ]; exact ih (i + 1) t (by rw [show i + 1 + t = i + (t + 1) by omega]; exact ht)
  exact this env 0 t (by rw [Nat.zero_add]; exact ht)

theorem mask_out {names : List Nat} {env : List AV} {t : Nat} (ht : names.contains t = false) : (mask names env).getD t .undef = .undef := by
  have : ∀ (env : List AV) (i t : Nat), names.contains (i + t) = false → (maskFrom names i env).getD t .undef = .undef := by
    intro env
    induction env with
    | nil => intro i t _; rfl
    | cons v r ih =>
      intro i t ht
      cases t with
      | zero => simp only [maskFrom]; simp at ht; simp [ht]
      | succ t => simp only [maskFrom, List.getD_cons_succ]; exact ih (i + 1) t (by rw [show i + 1 + t = i + (t + 1) by omega]; exact ht)
  exact this env 0 t (by rw [Nat.zero_add]; exact ht)

/-! ### How many turning operations -/
def cntS : List AOp → Nat → (Nat → Bool) → Nat
  | [], _, _ => 0
  | x :: r, o, S => (if isStrong x && S o then 1 else 0) + cntS r (o + 1) S

theorem strongs_count (S : Nat → Bool) : ∀ (ops : List AOp) (o : Nat), (((ops.zipIdx o).filter fun p => isStrong p.1).map (·.2)).countP S = cntS ops o S
  | [], _ => rfl
  | x :: r, o => by
    simp only [List.zipIdx_cons, List.filter_cons, cntS]
    rw [← strongs_count S r (o + 1)]
    by_cases hx : isStrong x = true
    · simp only [hx, if_true, List.map_cons, List.countP_cons, Bool.true_and]
      omega
    · simp [hx]

theorem cntS_congr {S S' : Nat → Bool} : ∀ (ops : List AOp) (o : Nat), (∀ (k : Nat) (x : AOp), ops[k]? = some x → isStrong x = true → S (o + k) = S' (o + k)) → cntS ops o S = cntS ops o S'
  | [], _, _ => rfl
  | x :: r, o, h => by
    have ih := cntS_congr (S := S) (S' := S') r (o + 1) (fun k y hk hy => by
      have := h (k + 1) y (by simpa using hk) hy
      have e : o + 1 + k = o + (k + 1) := by omega
      rw [e]; exact this)
    have h0 : (isStrong x && S o) = (isStrong x && S' o) := by
      by_cases hx : isStrong x = true
      · have := h 0 x rfl hx
        simp only [Nat.add_zero] at this
        rw [this]
      · simp [hx]
    simp only [cntS, h0, ih]

theorem cntS_zero : ∀ (ops : List AOp) (o i : Nat), i ≤ o → cntS ops o (fun k => decide (k < i)) = 0
  | [], _, _, _ => rfl
  | x :: r, o, i, h => by
    simp only [cntS]
    rw [cntS_zero r (o + 1) i (by omega)]
    have : decide (o < i) = false := by simpa using h
    simp [this]

theorem cntS_step : ∀ (ops : List AOp) (o k : Nat) (x : AOp), ops[k]? = some x → cntS ops o (fun j => decide (j < o + k + 1)) = cntS ops o (fun j => decide (j < o + k)) + (if isStrong x then 1 else 0)
  | [], _, _, _, h => by simp at h
  | y :: r, o, k, x, h => by
    cases k with
    | zero =>
      simp at h; subst h
      simp only [cntS, Nat.add_zero]
      rw [cntS_zero r (o + 1) o (by omega), cntS_zero r (o + 1) (o + 1) (Nat.le_refl _)]
      by_cases hx : isStrong y = true <;> simp [hx]
    | succ k =>
      simp only [cntS]
      have := cntS_step r (o + 1) k x (by simpa using h)
      rw [show o + (k + 1) + 1 = o + 1 + k + 1 by omega, show o + (k + 1) = o + 1 + k by omega, this]
      have h1 : decide (o < o + 1 + k + 1) = true := by simp; omega
      have h2 : decide (o < o + 1 + k) = true := by simp; omega
      simp only [h1, h2]; omega

theorem C_cnt {hs : List AH} {cs : List Chk} {E : Nat → List AV} {C : Nat → Nat} (h0 : C 0 = 0) (hst : ∀ (i : Nat) (o : AOper), l[i]? = some o → StepOk mt call hs cs o (E i) (C i) (V i) (C (i + 1))) : ∀ i, i ≤ l.length → C i = cntS (l.map (·.op)) 0 (fun k => decide (k < i))
  | 0, _ => by rw [h0, cntS_zero _ 0 0 (Nat.le_refl _)]
  | i + 1, h => by
    have hi : i < l.length := by omega
    have := (hst i l[i] (by simp [hi])).1
    have hs := cntS_step (l.map (·.op)) 0 i l[i].op (by simp [hi])
    simp only [Nat.zero_add] at hs
    rw [this, hs, ← C_cnt h0 hst i (by omega)]
    split <;> rfl
end
end Go.Proofs.YtjihmonajekomaaGreatDoor.Ax
