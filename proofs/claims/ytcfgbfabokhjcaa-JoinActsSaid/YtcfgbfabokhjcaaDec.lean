/- Chapter 19: the contract of Decimal, for numbers below 100. -/
import Derived.Test.YtcfgbfabokhjcaaLinks
namespace Go.Proofs.Ytcfgbfabokhjcaa
namespace Plain
open Go
def dig (x : Nat) : UInt8 := UInt8.ofNat (48 + x % 10)
def decL (x : Nat) : List UInt8 := if x < 10 then [dig x] else [dig (x / 10), dig x]
def dec (x : Nat) : ByteArray := ⟨(decL x).toArray⟩
theorem dig_nat (x : Nat) : ((dig x).toNat : Int) = 48 + (x : Int) % 10 := by
  unfold dig
  rw [UInt8.toNat_ofNat']
  omega
theorem dec_size (x : Nat) : (dec x).size ≤ 2 := by
  show (decL x).toArray.size ≤ 2
  unfold decL
  split <;> simp
end Plain
open Go.RowKit
open Plain

def lenV : Value → Nat
  | .slice _ n _ => n
  | _ => 0
def mD (s o : Value) : Nat := (intOf s).toNat + (if lenV o = 0 then 1 else 0)
/-- bytes in a slice, as a string. -/
theorem conv_sl (w : World) (ao : Option Addr) (n cap : Nat) (d : List UInt8) (hn : d.length = n) (h : Sl w 5 1 ao n cap (cellsB d)) : (convert 86 9 (.slice ao n cap)).run Try.prog w = .ok (.string ⟨d.toArray⟩) w := by
  subst hn
  rcases h.2.2.2 with ⟨rfl, h0⟩ | ⟨g, off, cur, rfl, hg, _, ht⟩
  · have hd : d = [] := List.eq_nil_of_length_eq_zero (by have := h.2.1; omega)
    subst hd
    exact run_convert_bytes_nil w 86 5 Try.underlying86 Try.underlying5 _ _ 9 Try.underlying9
  · refine run_convert_bytes_back w 86 9 5 ⟨g, off, none⟩ cap d Try.underlying86 Try.underlying5 Try.underlying9 (fun j hj => ?_)
    have := h.cells j (.int .u8 (d[j].toNat : Int)) (by simp [cellsB, hj])
    rw [Addr.add_lit]
    exact this

set_option maxRecDepth 100000 in
set_option maxHeartbeats 2000000 in
theorem decimal_any (x : Nat) (hx : x < 100) (w : World) : Calls Try.prog 28 #[.int .i64 x] w fun e w' => e = .returned (.string (dec x)) ∧ Only [] w w' := by
  obtain ⟨i5, hi5, hz5, hsz5, hby5⟩ := info_parts info5
  have hw1 : IntKind.u64.wrap (x : Int) = x := by unfold IntKind.wrap; simp [IntKind.bits]; omega
  have c9 : Try.prog.underlying 9 = some .string := Try.underlying9
  go_enter Try.func28, Try.ntmps28
  go_wp2_with fail
  go_loopw [3, 4] (fun s o wr => ∃ (a : Nat) (d : List UInt8) (ao : Option Addr) (cap : Nat), s = .int .u64 a ∧ o = .slice ao d.length cap ∧ Sl wr 5 1 ao d.length cap (cellsB d) ∧ (∀ k, blk ao = some k → w.heap.size ≤ k) ∧ Only [] w wr ∧ ((a = x ∧ d = []) ∨ (a = x / 10 ∧ d = [dig x]) ∨ (a = 0 ∧ 10 ≤ x ∧ d = [dig (x / 10), dig x]))) (fun s o _ => mD s o)
  case atStart => exact ⟨x, [], none, 0, rfl, rfl, Sl.nil _ _ _, by simp [blk], Only.refl _ _, .inl ⟨rfl, rfl⟩⟩
  case round =>
    obtain ⟨a, d, ao, cap, rfl, rfl, hs, hb, ho, hst⟩ := hrel
    by_cases hgo : 0 < a ∨ d = []
    · have hda : a < 100 ∧ d.length ≤ 1 := by
        rcases hst with ⟨h1, h2⟩ | ⟨h1, h2⟩ | ⟨h1, h2, h3⟩
        · subst h1 h2; exact ⟨hx, by simp⟩
        · subst h1 h2; exact ⟨by omega, by simp⟩
        · subst h1 h3; simp at hgo
      have hpick : (decide (0 < a) = true) ∨ (decide (0 < a) = false ∧ ((d.length : Int) == 0) = true) := by
        rcases hgo with h | h
        · left; simpa using h
        · by_cases h0 : 0 < a
          · left; simpa using h0
          · right; exact ⟨by simp; omega, by rw [h]; rfl⟩
      obtain ⟨ha, hdl⟩ := hda
      have HE := Lib.hid (show [Value.int .u8 (48 + (a : Int) % 10)] ++ cellsB d = cellsB (dig a :: d) by simp [cellsB, dig_nat])
      have hsw := (hs.only ((Only.refl [] wr).alloc (.cells #[.int .u8 (48 + (a : Int) % 10)] 5)) (by simp)).src (fun u hu => by obtain ⟨b, _, rfl⟩ := List.mem_map.1 hu; rfl)
      have hnew := sl_laid wr #[.int .u8 (48 + (a : Int) % 10)] 5 1 1 rfl (by unfold maxLen; omega)
      have HST := Lib.hid (show (a / 10 = x ∧ dig a :: d = []) ∨ (a / 10 = x / 10 ∧ dig a :: d = [dig x]) ∨ (a / 10 = 0 ∧ 10 ≤ x ∧ dig a :: d = [dig (x / 10), dig x]) by
        rcases hst with ⟨h1, h2⟩ | ⟨h1, h2⟩ | ⟨h1, h2, h3⟩
        · subst h1 h2; exact .inr (.inl ⟨rfl, rfl⟩)
        · subst h1 h2
          refine .inr (.inr ⟨by omega, ?_, rfl⟩)
          simp at hgo; omega
        · subst h1 h3; simp at hgo)
      have HM := Lib.hid (show a / 10 + 0 < a + (if d.length = 0 then 1 else 0) by
        rcases hgo with h | h
        · have := Nat.div_lt_self h (show 1 < 10 by omega); omega
        · subst h; have := Nat.div_le_self a 10; simp; omega)
      clear hst hs hgo
      rcases hpick with d0 | ⟨d0, d1⟩
      all_goals
        go_wp2_with (at_builtin; refine wpList_append_src _ rfl (.tmp 25) (.tmp 26) 86 rfl 5 i5 (.int .u8 0) 1 1 Try.underlying86 hi5 hz5 hsz5 hby5 rfl _ 1 1 _ rfl hnew ao _ cap _ rfl hsw (by unfold maxLen; omega) (by omega) ?_; intro ao' cap' w5 hs' hg' hbl')
        go_roundw
        case rel =>
          refine ⟨a / 10, dig a :: d, ao', cap', by go_num, by simp [Nat.add_comm], ?_, ?_, ?_, HST.out⟩
          · have e : 1 + d.length = (dig a :: d).length := by simp [Nat.add_comm]
            rw [← HE.out, ← e]
            exact hs'
          · intro k hk
            rcases hbl' with h | h
            · rw [h] at hk; simp [blk] at hk; have := ho.size; omega
            · rw [h] at hk; simp at hk; have := ho.size; omega
          · exact ho.trans' (Only.trans' ((Only.refl [] wr).alloc _) (Only.of_grown (S := [wr.heap.size]) hg' (fun k hk => List.mem_singleton.2 (show k = wr.heap.size by simpa [blk] using hk.symm))) (by simp)) (by simp)
        case measure =>
          have := HM.out
          simp [mD, intOf, lenV] at this ⊢
          omega
    · have h1 : a = 0 := by omega
      have h2 : d ≠ [] := fun e => hgo (.inr e)
      have hd : d = decL x := by
        unfold decL
        rcases hst with ⟨e1, e2⟩ | ⟨e1, e2⟩ | ⟨e1, e2, e3⟩
        · exact absurd e2 h2
        · rw [if_pos (by omega), e2]
        · rw [if_neg (by omega), e3]
      subst h1
      have dl : d.length ≠ 0 := fun e => h2 (List.eq_nil_of_length_eq_zero e)
      have hne : ((d.length : Int) == 0) = false := by simpa using h2
      have hc := conv_sl wr ao d.length cap d rfl hs
      rw [show (⟨d.toArray⟩ : ByteArray) = dec x by rw [hd]; rfl] at hc
      clear hgo hst hd h2 hs
      go_wp2
      go_ret
      exact ⟨rfl, ho⟩
end Go.Proofs.Ytcfgbfabokhjcaa
