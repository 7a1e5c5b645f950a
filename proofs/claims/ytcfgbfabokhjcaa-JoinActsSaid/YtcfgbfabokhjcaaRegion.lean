/- Regions that draw their order: a head that only reads, in whatever order, then a tail whose order is forced: one walk in the order of the text. Over any program. -/
import Derived.StillTail
import Derived.WalkKit
import Derived.KernelRfl
namespace Go.Proofs.Ytcfgbfabokhjcaa

/-- Operations that hand back a value or nothing: no call of a Go function, no defer, no communication. -/
def plainOp : Op → Bool
  | .call { callee := .builtin .len, .. } | .call { callee := .builtin .cap, .. } | .call { callee := .builtin .min, .. } | .call { callee := .builtin .max, .. } | .call { callee := .builtin .append, .. } | .call { callee := .builtin .delete, .. } | .call { callee := .builtin .copy, .. } => true
  | .call _ | .go _ | .defer _ | .send .. | .recv .. | .select .. | .panic _ => false
  | _ => true

theorem run_v {P : Program} {w w' : World} {n : Next} {s : Sem Value} (h : (do pure (Next.value (← s)) : Sem Next).run P w = .ok n w') : ∃ v, n = .value v := by
  rw [Sem.run_bind] at h
  cases hs : s.run P w with
  | ok v w1 => rw [hs] at h; simp [Result.andThen] at h; exact ⟨v, h.1.symm⟩
  | halt x w1 => rw [hs] at h; simp [Result.andThen] at h
theorem run_u {P : Program} {w w' : World} {n : Next} {s : Sem Unit} (h : (do s; pure Next.skip : Sem Next).run P w = .ok n w') : n = .skip := by
  rw [Sem.run_bind] at h
  cases hs : s.run P w with
  | ok v w1 => rw [hs] at h; simp [Result.andThen] at h; exact h.1.symm
  | halt x w1 => rw [hs] at h; simp [Result.andThen] at h

theorem plain_run {P : Program} {w w' : World} {n : Next} {o : Oper} {ρ : Operand → Value} (hp : plainOp o.op = true) (h : (execOp ρ o).run P w = .ok n w') : (∃ v, n = .value v) ∨ n = .skip := by
  obtain ⟨dst, op, ty, pos, after, guard⟩ := o
  cases op <;> simp only [plainOp, Bool.false_eq_true] at hp
  case move x => left; simp [execOp] at h; exact ⟨_, h.1.symm⟩
  case assign x => left; simp [execOp] at h; exact ⟨_, h.1.symm⟩
  case pick c a b =>
    left
    unfold execOp at h
    simp only [Sem.run_bind] at h
    cases hs : (asBool (ρ c)).run P w with
    | ok v w1 => rw [hs] at h; simp [Result.andThen] at h; exact ⟨_, h.1.symm⟩
    | halt x w1 => rw [hs] at h; simp [Result.andThen] at h
  case nilCheck x =>
    left
    unfold execOp at h
    simp only at h
    split at h
    · simp [runtimePanic, goPanic, Sem.run, Sem.run_bind, program, Result.andThen] at h
    · simp [runtimePanic, goPanic, Sem.run, Sem.run_bind, program, Result.andThen] at h
    · simp [runtimePanic, goPanic, Sem.run, Sem.run_bind, program, Result.andThen] at h
    · split at h
      · simp [runtimePanic, goPanic, Sem.run, Sem.run_bind, program, Result.andThen] at h
      · rename_i t u _
        simp only [Sem.run_bind] at h
        cases h1 : (program).run P w with
        | ok p w1 =>
          rw [h1] at h
          simp only [Result.andThen] at h
          cases h2 : (nilAhead (p.types.size + Made.depth) t u _).run P w1 with
          | ok b w2 =>
            rw [h2] at h
            simp only at h
            split at h
            · simp [unsupported, Sem.run, Result.andThen] at h
            · simp at h; exact ⟨_, h.1.symm⟩
          | halt z w2 => rw [h2] at h; simp at h
        | halt z w1 => rw [h1] at h; simp [Result.andThen] at h
      · simp at h; exact ⟨_, h.1.symm⟩
    · simp at h; exact ⟨_, h.1.symm⟩
  case store t a x => right; exact run_u h
  case ready g => right; exact run_u h
  case mapUpdate t m k x => right; exact run_u h
  case insert t m k x => right; exact run_u h
  case entryStore t m s x => right; exact run_u h
  case call c =>
    left
    obtain ⟨callee, args, ats⟩ := c
    cases callee with
    | builtin b =>
      cases b <;> simp only [Bool.false_eq_true] at hp
      all_goals exact run_v h
    | value f => simp at hp
    | invoke r m => simp at hp
  all_goals (left; exact run_v h)

section
variable {P : Program} {ops : Array Oper} {w : World} {Q : Act → Prop} {a : Act} {o : Oper} {rest : List Oper}

theorem still_of_wp {K : Act → Prop} (hn : ∀ n w', (execOp a.eval o).run P w = .ok n w' → (∃ v, n = .value v) ∨ n = .skip)
    (h : o.wp P a w (fun a' w' => w' = w ∧ K a') (fun _ _ _ => False)) : o.still P a w K := by
  unfold Oper.wp at h
  unfold Oper.still
  generalize hr : (execOp a.eval o).run P w = r at *
  cases r with
  | ok n w' =>
    rcases hn n w' rfl with ⟨v, rfl⟩ | rfl
    · exact h
    · exact h
  | halt x w' => cases x <;> exact h

theorem wpStill_op (hp : plainOp o.op = true) (hw : Region.wanted o (yielded ops a.tmps) = true)
    (h : ∀ K : Act → World → Prop, (∀ a', wpStill P ops w Q rest a' → K a' w) → o.wp P a w K (fun _ _ _ => False)) : wpStill P ops w Q (o :: rest) a := by
  unfold wpStill
  rw [if_pos hw]
  exact still_of_wp (fun n w' hr => plain_run hp hr) (h _ (fun a' ha => ⟨rfl, ha⟩))

/-- A nil check of an address that is not nil. -/
theorem wpStill_nilCheck {x : Operand} {p : Addr} (ho : o.op = .nilCheck x) (hw : Region.wanted o (yielded ops a.tmps) = true) (hx : a.eval x = .pointer (some p))
    (h : wpStill P ops w Q rest (a.put o.dst (.pointer (some p)))) : wpStill P ops w Q (o :: rest) a := by
  unfold wpStill
  rw [if_pos hw]
  unfold Oper.still execOp
  simp only [ho, hx]
  exact ⟨rfl, h⟩

/-- An operation whose guard says no. -/
theorem wpStill_off (hw : Region.wanted o (yielded ops a.tmps) = false) (h : wpStill P ops w Q rest (a.put o.dst undef)) : wpStill P ops w Q (o :: rest) a := by
  unfold wpStill
  rw [if_neg (by simp [hw])]
  exact h

/-- A call of a Go function that leaves the world alone. -/
theorem wpStill_enter {f : FuncId} {args : Array Value} {v : Value} (hw : Region.wanted o (yielded ops a.tmps) = true) (hr : (execOp a.eval o).run P w = .ok (.enter f args) w)
    (hc : Calls P f args w fun e w' => e = .returned v ∧ w = w') (h : wpStill P ops w Q rest (a.put o.dst v)) : wpStill P ops w Q (o :: rest) a := by
  unfold wpStill
  rw [if_pos hw]
  unfold Oper.still
  rw [hr]
  exact ⟨rfl, v, hc.mono fun e w' ⟨h1, h2⟩ => ⟨h1, h2.symm⟩, h⟩
end

theorem wp_region_tail {P : Program} {id : Nat} {Q : Exit → Act → World → Prop} {a : Act} {w : World} {l : List Oper} (n : Nat) (hm : P.follows .mixedOrders = true) (hB : Region.lexTailB .any l.toArray n = true)
    (h : wpStill P l.toArray w.drew (fun a' => wpList P l.toArray Q (l.drop n) a' w.drew) (l.take n) a) : (Code.region id l.toArray true).wp P Q a w :=
  wp_region_still_tail n hm hB h

theorem wp_region_reads {P : Program} {id : Nat} {Q : Exit → Act → World → Prop} {a : Act} {w : World} {l : List Oper} (hm : P.follows .mixedOrders = true) (hB : Region.lexB .any l.toArray = true)
    (h : wpStill P l.toArray w.drew (fun a' => Q .normal a' w.drew) l a) : (Code.region id l.toArray true).wp P Q a w :=
  wp_region_still_lit hm hB h

end Go.Proofs.Ytcfgbfabokhjcaa
