/- The contract of chapter 19's packet. -/
import Derived.Test.YtcfgbfabokhjcaaLet
import Derived.Lib.AppendStr
import Derived.Laws.BytesArg
import Derived.Laws.IdiomStrings
namespace Go.Proofs.Ytcfgbfabokhjcaa
namespace Plain
open Go
theorem scan_succ (S : J) (fuel i : Nat) (d : List UInt8) : S.scan (fuel + 1) i d = match S.get (pos S.R S.next i) with
    | none => ([], i, false)
    | some f => if i > 0 ∧ f.b = true then ([], i, false) else if f.e = true then (d ++ f.d.data.toList, i + 1, true) else S.scan fuel (i + 1) (d ++ f.d.data.toList) := rfl
theorem scan_none {S : J} {i : Nat} (h : S.get (pos S.R S.next i) = none) (fuel : Nat) (d : List UInt8) : S.scan (fuel + 1) i d = ([], i, false) := by rw [scan_succ, h]
theorem scan_begin {S : J} {i : Nat} {f : Fr} (h : S.get (pos S.R S.next i) = some f) (h0 : 0 < i) (hb : f.b = true) (fuel : Nat) (d : List UInt8) : S.scan (fuel + 1) i d = ([], i, false) := by rw [scan_succ, h]; simp [h0, hb]
theorem scan_end {S : J} {i : Nat} {f : Fr} (h : S.get (pos S.R S.next i) = some f) (hb : ¬ (0 < i ∧ f.b = true)) (he : f.e = true) (fuel : Nat) (d : List UInt8) : S.scan (fuel + 1) i d = (d ++ f.d.data.toList, i + 1, true) := by rw [scan_succ, h]; simp only; rw [if_neg hb, if_pos he]
theorem scan_on {S : J} {i : Nat} {f : Fr} (h : S.get (pos S.R S.next i) = some f) (hb : ¬ (0 < i ∧ f.b = true)) (he : f.e = false) (fuel : Nat) (d : List UInt8) : S.scan (fuel + 1) i d = S.scan fuel (i + 1) (d ++ f.d.data.toList) := by rw [scan_succ, h]; simp only; rw [if_neg hb, if_neg (by simp [he])]

/-- a list without repeats in another is no longer. -/
theorem len_sub : ∀ (l l' : List Int), l.Nodup → (∀ x ∈ l, x ∈ l') → l.length ≤ l'.length
  | [], _, _, _ => by simp
  | x :: l, l', hn, hs => by
    rw [List.nodup_cons] at hn
    have hx := hs x List.mem_cons_self
    have h1 : ∀ y ∈ l, y ∈ l'.erase x := fun y hy => by
      have hne : y ≠ x := fun e => hn.1 (e ▸ hy)
      exact (List.mem_erase_of_ne hne).2 (hs y (List.mem_cons_of_mem _ hy))
    have := len_sub l (l'.erase x) hn.2 h1
    have h2 := List.length_erase_of_mem hx
    have h3 : 0 < l'.length := List.length_pos_of_mem hx
    simp only [List.length_cons]
    omega
theorem get_mem {S : J} {q : Int} {f : Fr} (h : S.get q = some f) : f ∈ S.held ∧ f.q = q := by
  unfold J.get at h
  exact ⟨List.mem_of_find?_eq_some h, by simpa using List.find?_some h⟩
/-- as many numbers from next on as are held, no more. -/
theorem run_len {S : J} (h : S.Ok) (i : Nat) (hi : ∀ j, j < i → (S.get (pos S.R S.next j)).isSome = true) (hR : (i : Int) ≤ S.R) : i ≤ S.held.length := by
  have := len_sub ((List.range i).map fun j : Nat => pos S.R S.next (j : Int)) (S.held.map (·.q)) ?_ ?_
  · simpa using this
  · rw [List.nodup_iff_pairwise_ne, List.pairwise_map]
    refine List.Pairwise.imp_of_mem ?_ (List.nodup_iff_pairwise_ne.1 List.nodup_range)
    intro a b ha hb hne e
    have h1 := List.mem_range.1 ha
    have h2 := List.mem_range.1 hb
    have e1 := off_pos (n := S.next) h.isRing (i := (a : Int)) (by omega) (by omega)
    have e2 := off_pos (n := S.next) h.isRing (i := (b : Int)) (by omega) (by omega)
    rw [e, e2] at e1
    omega
  · intro x hx
    obtain ⟨j, hj, rfl⟩ := List.mem_map.1 hx
    obtain ⟨f, hf⟩ := Option.isSome_iff_exists.1 (hi j (List.mem_range.1 hj))
    obtain ⟨a, b⟩ := get_mem hf
    exact List.mem_map.2 ⟨f, a, b⟩
end Plain
open Go.RowKit
open Plain

def cellsB (d : List UInt8) : List Value := d.map fun b => Value.int .u8 b.toNat
theorem cellsB_app (d : List UInt8) (s : ByteArray) : cellsB d ++ Lib.strCells s = cellsB (d ++ s.data.toList) := by simp [cellsB, Lib.strCells]
theorem cellsB_len (d : List UInt8) : (cellsB d).length = d.length := by simp [cellsB]
theorem info5 : (Try.prog.info? 5).map (fun i => (i.zero, i.size, i.bytes)) = some (some (.int .u8 0), 1, 1) := by kernel_rfl

/-- bytes that were gathered, as a string. -/
theorem conv_own (w : World) (B : Nat) (v : Value) (d : List UInt8) (h : w.ownsRow B 5 1 v d.length (cellsB d)) : (convert 86 9 v).run Try.prog w = .ok (.string ⟨d.toArray⟩) w := by
  rcases h.2 with ⟨rfl, h0⟩ | ⟨g, cap, cur, rfl, _, hg, _, _, _, ht⟩
  · have : d = [] := List.eq_nil_of_length_eq_zero h0
    subst this
    exact run_convert_bytes_nil w 86 5 Try.underlying86 Try.underlying5 _ _ 9 Try.underlying9
  · refine run_convert_bytes_back w 86 9 5 ⟨g, 0, none⟩ cap d Try.underlying86 Try.underlying5 Try.underlying9 (fun j hj => ?_)
    have := h.cells (g := g) rfl j (.int .u8 (d[j].toNat : Int)) (by simp [cellsB, hj])
    exact this

/-- what the region keeps. -/
def Kp (p bl bh : Nat) (S : J) (B : Nat) (v : Value) (d : List UInt8) (w w' : World) : Prop := PJ w' p bl bh S ∧ w'.ownsRow B 5 1 v d.length (cellsB d) ∧ Only [] w w'
theorem Kp.drew {p bl bh : Nat} {S : J} {B : Nat} {v : Value} {d : List UInt8} {w w' : World} (h : Kp p bl bh S B v d w w') : Kp p bl bh S B v d w w'.drew := ⟨h.1.drew, h.2.1, h.2.2.drew⟩
theorem Kp.grown {p bl bh : Nat} {S : J} {B : Nat} {v : Value} {d : List UInt8} {w w' w2 : World} (h : Kp p bl bh S B v d w w') (o : Only [] w' w2) : Kp p bl bh S B v d w w2 := by
  refine ⟨h.1.only o (by simp) (by simp) (by simp), ?_, h.2.2.trans o⟩
  have hg : w'.grownBy w2 none := ⟨o.os, o.tape, o.output, o.size, fun i hi _ => o.block i hi (by simp)⟩
  refine h.2.1.kept hg ?_
  rcases h.2.1.2 with ⟨rfl, _⟩ | ⟨g, cap, cur, rfl, _⟩
  · exact .inl rfl
  · exact .inr (by simp [Value.ownBlock])

theorem set4 {w : World} {T : Nat} {c0 c1 c2 c3 : Value} {t : TypeId} (h : w.heap[T]? = some (.cells #[c0, c1, c2, c3] t)) (a b c d : Value) :
    ((((w.setCell ⟨T, 0, none⟩ a).setCell ⟨T, 1, none⟩ b).setCell ⟨T, 2, none⟩ c).setCell ⟨T, 3, none⟩ d).heap[T]? = some (.cells #[a, b, c, d] t) ∧
    Only [T] w ((((w.setCell ⟨T, 0, none⟩ a).setCell ⟨T, 1, none⟩ b).setCell ⟨T, 2, none⟩ c).setCell ⟨T, 3, none⟩ d) := by
  refine ⟨?_, ((((Only.refl _ _).setCell (.inl (by simp)) _).setCell (.inl (by simp)) _).setCell (.inl (by simp)) _).setCell (.inl (by simp)) _⟩
  have h0 := heap_setCell_same (o := 0) h a
  have h1 := heap_setCell_same (o := 1) h0 b
  have h2 := heap_setCell_same (o := 2) h1 c
  have h3 := heap_setCell_same (o := 3) h2 d
  rw [h3]
  rfl
theorem Kp.own4 {p bl bh : Nat} {S : J} {B : Nat} {v : Value} {d : List UInt8} {w w' w2 : World} {T : Nat} (h : Kp p bl bh S B v d w w') (hT : w.heap.size ≤ T) (o : Only [T] w' w2) (hp : p < w.heap.size ∧ bl < w.heap.size ∧ bh < w.heap.size) (hv : ∀ g, v.ownBlock = some g → g ≠ T) : Kp p bl bh S B v d w w2 := by
  refine ⟨h.1.only o (by simp; omega) (by simp; omega) (by simp; omega), ?_, h.2.2.trans' o (fun x hx => by right; simp at hx; omega)⟩
  have hg : w'.grownBy w2 (some T) := ⟨o.os, o.tape, o.output, o.size, fun i hi hne => o.block i hi (by simp; exact fun e => hne (by rw [e]))⟩
  refine h.2.1.kept hg ?_
  rcases h.2.1.2 with ⟨rfl, _⟩ | ⟨g, cap, cur, rfl, _⟩
  · exact .inl rfl
  · exact .inr (fun e => hv g rfl (by simpa [Value.ownBlock] using e))

theorem Kp.app {p bl bh : Nat} {S : J} {v v' : Value} {d : List UInt8} {w w4 w5 : World} (h : PJ w p bl bh S) (K : Kp p bl bh S w.heap.size v d w w4) (s : ByteArray) (ho : w5.ownsRow w.heap.size 5 1 v' (d.length + s.size) (cellsB d ++ Lib.strCells s)) (g : w4.grownBy w5 v.ownBlock) :
    Kp p bl bh S w.heap.size v' (d ++ s.data.toList) w w5 := by
  have hge : ∀ k, v.ownBlock = some k → w.heap.size ≤ k := fun k hk => (K.2.1.lt k hk).1
  have hl := h.lt
  have ho' : Only (match v.ownBlock with | some k => [k] | none => []) w4 w5 := Only.of_grown g (fun k hk => by rw [hk]; simp)
  have hnot : ∀ x, x < w.heap.size → x ∉ (match v.ownBlock with | some k => [k] | none => []) := by
    intro x hx hm
    cases hv : v.ownBlock with
    | none => rw [hv] at hm; cases hm
    | some k => rw [hv] at hm; have := hge k hv; simp at hm; omega
  refine ⟨K.1.only ho' (hnot _ hl.1) (hnot _ hl.2.1) (hnot _ hl.2.2), ?_, K.2.2.trans' ho' (fun x hx => .inr ?_)⟩
  · rw [cellsB_app] at ho
    have e : (d ++ s.data.toList).length = d.length + s.size := by simp
    rw [e]
    exact ho
  · rcases Nat.lt_or_ge x w.heap.size with h1 | h1
    · exact absurd hx (hnot x h1)
    · exact h1
theorem ret_sc {r : List UInt8 × Nat × Bool} {l : List UInt8} {n : Nat} {b : Bool} (h : r = (l, n, b)) : Ending.returned (.tuple #[.string ⟨l.toArray⟩, .int .i64 n, .bool b]) = .returned (.tuple #[.string ⟨r.1.toArray⟩, .int .i64 r.2.1, .bool r.2.2]) := by rw [h]
theorem ret_sc1 {r : List UInt8 × Nat × Bool} {l : List UInt8} {n : Nat} {b : Bool} {m : Int} (h : r = (l, n, b)) (hm : m = n) : Ending.returned (.tuple #[.string ⟨l.toArray⟩, .int .i64 m, .bool b]) = .returned (.tuple #[.string ⟨r.1.toArray⟩, .int .i64 r.2.1, .bool r.2.2]) := by rw [h, hm]

set_option maxRecDepth 100000 in
set_option maxHeartbeats 4000000 in
theorem packet_any (p bl bh : Nat) (S : J) (w : World) (h : PJ w p bl bh S) : Calls Try.prog 51 #[.pointer (some ⟨p, 0, none⟩)] w fun e w' => e = .returned (.tuple #[.string ⟨(S.scan (S.held.length + 1) 0 []).1.toArray⟩, .int .i64 (S.scan (S.held.length + 1) 0 []).2.1, .bool (S.scan (S.held.length + 1) 0 []).2.2]) ∧ Only [] w w' := by
  have hR := h.ok.isRing
  have hr0 := h.ok.r0
  obtain ⟨r1, r2⟩ := hr0
  have HP := Lib.hid h
  have hcnt := h.ok.count
  obtain ⟨i0, hi, hz0, hz1, hz2⟩ := info_parts info5
  have HI := Lib.hid (And.intro hi (And.intro hz0 (And.intro hz1 hz2)))
  clear hi hz0 hz1 hz2
  have K0 : Kp p bl bh S w.heap.size (.slice none 0 0) [] w w := ⟨h, World.ownsRow_nil _ _ _ _, Only.refl _ _⟩
  clear h
  obtain ⟨N, hN⟩ : ∃ N, N = S.held.length := ⟨_, rfl⟩
  have HN := Lib.hid hN
  have hN129 : N ≤ 129 := by omega
  clear hN hcnt
  go_enter Try.func51, Try.ntmps51
  go_wp2_with fail
  go_loopw [5, 6] (fun v i wr => ∃ (v0 : Value) (k : Nat) (d : List UInt8), v = v0 ∧ i = .int .i64 k ∧ Kp p bl bh S w.heap.size v0 d w wr ∧ d.length ≤ 2048 * k ∧ k ≤ N ∧ (∀ j, j < k → (S.get (pos S.R S.next j)).isSome = true) ∧ S.scan (N + 1 - k) k d = S.scan (N + 1) 0 []) (fun _ i _ => N + 1 - (intOf i).toNat)
  case atStart => exact ⟨_, 0, [], rfl, rfl, K0, by simp, by omega, by (intro j hj; omega), rfl⟩
  case round =>
    clear K0
    obtain ⟨_, k, d, rfl, rfl, K1, hd, hk, hall, hscan⟩ := hrel
    have HA := Lib.hid hall
    have HSc := Lib.hid hscan
    clear hall hscan
    have hpb := pos_bd (n := S.next) (q := (k : Int)) hR
    have hcall := fun w' (hp : PJ w' p bl bh S) => pos_any p S.R S.next k w' hR hp.ok.next0 hp.ok.next1 (by omega) (by omega) hp.c0 hp.c1
    have hlook := fun w' (hp : PJ w' p bl bh S) => hp.heldAt (pos S.R S.next k) (by omega) (by omega)
    generalize hq : pos S.R S.next (k : Int) = q at *
    have HQ := Lib.hid hq
    clear hq
    have HC := Lib.hid hcall
    have HLk := Lib.hid hlook
    clear hcall hlook
    go_wp2_with fail
    refine wp_region_part (Kp p bl bh S w.heap.size _ d w) [(0, true), (4, true), (7, true), (1, true), (2, true), (3, true), (5, true), (6, true)] 8 #[true, true, true, true, true, true, true, true, false, false, false, false, false, false, false, false] mixed (by kernel_rfl) (fun d v c a w h => by cases d <;> exact h) K1.drew ?_
    simp only [List.filterMap_cons, List.filterMap_nil, List.getElem?_cons_succ, List.getElem?_cons_zero, Option.map_some]
    have K2 := K1.drew
    clear K1
    generalize wr.drew = w2 at *
    iterate 3 (refine mixR_move rfl ?_)
    iterate 5 (refine mixR_free rfl (v := ?_) (fun w' h' => ?_) ?_; rotate_left; (focus (have c5 := h'.1.c5; go_simp <;> with_reducible rfl)))
    refine mixR_nil ?_
    intro hS
    refine anyH_two 8 13 _ _ (by kernel_rfl) rfl rfl rfl rfl (fun K hK => ?_) (fun K hK => ?_)
    focus
      go_step
      refine (HC.out _ K2.1).mono ?_
      rintro e w3 ⟨rfl, rfl⟩
      refine hK _ _ K2.drew ?_
      clear hK K
      have K3 := K2.drew
      generalize w2.drew = w3 at *
      refine anyH_mix [(9, true), (10, true), (11, true), (12, true), (13, false), (14, false), (15, false)] (by kernel_rfl) (by kernel_rfl) (fun d v c a w h => by cases d <;> exact h) K3 ?_
      simp only [mixOps, List.filterMap_cons, List.filterMap_nil, List.getElem?_toArray, List.getElem?_cons_succ, List.getElem?_cons_zero, Option.map_some]
      (refine mix_free rfl (v := ?_) (fun w' h' => ?_) ?_; rotate_left; (focus (have lk := HLk.out _ h'.1; go_simp <;> with_reducible rfl)))
      refine mix_move rfl ?_
      iterate 2 (refine mix_free rfl (v := ?_) (fun w' h' => ?_) ?_; rotate_left; (focus (go_simp <;> with_reducible rfl)))
      with_reducible refine mix_op ?_ ?_
      · rfl
      intro K hK
      go_step
      refine hK _ _ (K3.grown ((Only.refl _ _).alloc _)) ?_
      clear hK K
      with_reducible refine mix_op ?_ ?_
      · rfl
      intro K hK
      go_step
      have K4 := K3.grown ((Only.refl _ w3).alloc (.cells #[.bool ((S.get q).getD zeroF).b, .bool ((S.get q).getD zeroF).e, .int .i64 ((S.get q).getD zeroF).q, .string ((S.get q).getD zeroF).d] 33))
      have hb := heap_alloc_new' w3 (.cells #[.bool ((S.get q).getD zeroF).b, .bool ((S.get q).getD zeroF).e, .int .i64 ((S.get q).getD zeroF).q, .string ((S.get q).getD zeroF).d] 33)
      refine hK _ _ K4 ?_
      clear hK K
      have HOb := Lib.hid (fun g hg => Nat.ne_of_lt (K3.2.1.lt g hg).2)
      generalize w3.alloc _ = w4 at *
      generalize w3.heap.size = T at *
      clear K3
      with_reducible refine mix_op ?_ ?_
      · rfl
      intro K hK
      go_step
      refine hK _ _ K4 ?_
      clear hK K
      refine mix_nil ?_
    rotate_left
    focus
      go_step
      have K3 := K2.grown ((Only.refl _ w2).alloc (.cells #[.bool false, .bool false, .int .i64 0, .string ⟨#[]⟩] 33))
      have hb0 := heap_alloc_new' w2 (.cells #[.bool false, .bool false, .int .i64 0, .string ⟨#[]⟩] 33)
      refine hK _ _ K3 ?_
      clear hK K
      have hTn : w.heap.size ≤ w2.heap.size := K2.2.2.size
      have HOb := Lib.hid (fun g hg => Nat.ne_of_lt (K2.2.1.lt g hg).2)
      clear K2
      generalize w2.alloc _ = w3 at *
      generalize w2.heap.size = T at *
      refine anyH_mix [(8, false), (9, true), (10, true), (11, true), (12, true), (14, false), (15, false)] (by kernel_rfl) (by kernel_rfl) (fun d v c a w h => by cases d <;> exact h) K3 ?_
      simp only [mixOps, List.filterMap_cons, List.filterMap_nil, List.getElem?_toArray, List.getElem?_cons_succ, List.getElem?_cons_zero, Option.map_some]
      with_reducible refine mix_op ?_ ?_
      · rfl
      intro K hK
      go_step
      refine (HC.out _ K3.1).mono ?_
      rintro e w4 ⟨rfl, rfl⟩
      refine hK _ _ K3.drew ?_
      clear hK K
      have K4 := K3.drew
      have hb1 : w3.drew.heap[T]? = _ := hb0
      generalize w3.drew = w4 at *
      clear K3 hb0
      (refine mix_free rfl (v := ?_) (fun w' h' => ?_) ?_; rotate_left; (focus (have lk := HLk.out _ h'.1; go_simp <;> with_reducible rfl)))
      refine mix_move rfl ?_
      iterate 2 (refine mix_free rfl (v := ?_) (fun w' h' => ?_) ?_; rotate_left; (focus (go_simp <;> with_reducible rfl)))
      have hc0 := cell_of hb1 0
      have hc1 := cell_of hb1 1
      have hc2 := cell_of hb1 2
      have hc3 := cell_of hb1 3
      simp only [List.getElem?_toArray, List.getElem?_cons_succ, List.getElem?_cons_zero] at hc0 hc1 hc2 hc3
      have hf0 := frozen_of hb1 0
      have hf1 := frozen_of hb1 1
      have hf2 := frozen_of hb1 2
      have hf3 := frozen_of hb1 3
      with_reducible refine mix_op ?_ ?_
      · rfl
      intro K hK
      go_step
      have hs4 := set4 hb1 (.bool ((S.get q).getD zeroF).b) (.bool ((S.get q).getD zeroF).e) (.int .i64 ((S.get q).getD zeroF).q) (.string ((S.get q).getD zeroF).d)
      have K5 := (K4.own4 hTn hs4.2 HP.out.lt HOb.out)
      clear K4
      have K4 := K5
      clear K5
      have hb := hs4.1
      refine hK _ _ K4 ?_
      clear hK K hs4 hb1 hc0 hc1 hc2 hc3 hf0 hf1 hf2 hf3
      generalize (((w4.setCell _ _).setCell _ _).setCell _ _).setCell _ _ = w5 at *
      with_reducible refine mix_op ?_ ?_
      · rfl
      intro K hK
      go_step
      refine hK _ _ K4 ?_
      clear hK K
      refine mix_nil ?_
    all_goals
      clear hS HC HLk
      obtain hgn | ⟨f, hgf⟩ : S.get q = none ∨ ∃ f, S.get q = some f := by cases S.get q <;> simp
      · simp only [hgn, Option.getD_none, Option.isSome_none] at hb ⊢
        have hfin : S.scan (S.held.length + 1) 0 [] = ([], k, false) := by
          rw [← HN.out, ← HSc.out, show N + 1 - k = (N - k) + 1 by omega]
          exact scan_none (by rw [HQ.out]; exact hgn) _ _
        have HF := Lib.hid hfin
        clear hfin hgn
        go_wp2_with fail
        go_ret3
        exact ⟨ret_sc HF.out, K4.2.2⟩
      obtain ⟨fb, fe, fq, fd⟩ := f
      have hin := get_mem hgf
      have hfd := (HP.out.ok.frag _ hin.1).2.2
      simp only [hgf, Option.getD_some, Option.isSome_some] at hb ⊢ hfd
      have t0 := cell_of hb 0
      have t1 := cell_of hb 1
      have t3 := cell_of hb 3
      simp only [List.getElem?_toArray, List.getElem?_cons_succ, List.getElem?_cons_zero] at t0 t1 t3
      have HG := Lib.hid (show S.get (pos S.R S.next k) = some ⟨fb, fe, fq, fd⟩ by rw [HQ.out]; exact hgf)
      clear hgf hin
      by_cases hbeg : 0 < k ∧ fb = true
      · obtain ⟨hk0, rfl⟩ := hbeg
        have d0 : decide (0 < (k : Int)) = true := by simp; omega
        have hfin : S.scan (S.held.length + 1) 0 [] = ([], k, false) := by
          rw [← HN.out, ← HSc.out, show N + 1 - k = (N - k) + 1 by omega]
          exact scan_begin HG.out hk0 rfl _ _
        have HF := Lib.hid hfin
        clear hfin
        go_wp2_with fail
        go_ret3
        exact ⟨ret_sc HF.out, K4.2.2⟩
      have HB := Lib.hid hbeg
      have hpick : ¬ 0 < k ∨ (0 < k ∧ fb = false) := by
        by_cases h0 : 0 < k
        · right
          refine ⟨h0, ?_⟩
          cases fb
          · rfl
          · exact absurd ⟨h0, rfl⟩ hbeg
        · exact .inl h0
      have hown := K4.2.1
      have hbase := K4.2.2.size
      have hdl : d.length + fd.size ≤ 270000 := by omega
      obtain ⟨d', hd'⟩ : ∃ d', d' = d ++ fd.data.toList := ⟨_, rfl⟩
      have hdl' : d'.length ≤ 2048 * (k + 1) := by
        rw [hd', List.length_append]
        have : fd.data.toList.length = fd.size := by simp
        omega
      have KA := Lib.hid (fun v' w5 a b => hd' ▸ K4.app (v' := v') (w5 := w5) HP.out fd a b)
      have HD' := Lib.hid hd'
      clear hbeg hd'
      cases fe
      · have hk1 : k + 1 ≤ N := by
          rw [HN.out]
          refine run_len HP.out.ok (k + 1) (fun j hj => ?_) (by omega)
          by_cases e : j = k
          · rw [e, HG.out]; rfl
          · exact HA.out j (by omega)
        have hrel1 : (∀ j, j < k + 1 → (S.get (pos S.R S.next j)).isSome = true) ∧ S.scan (N + 1 - (k + 1)) (k + 1) d' = S.scan (N + 1) 0 [] := by
          refine ⟨fun j hj => ?_, ?_⟩
          · by_cases e : j = k
            · rw [e, HG.out]; rfl
            · exact HA.out j (by omega)
          · rw [← HSc.out, show N + 1 - k = (N - k) + 1 by omega, scan_on HG.out HB.out rfl, HD'.out, show N + 1 - (k + 1) = N - k by omega]
        have HR1 := Lib.hid hrel1
        clear hrel1
        rcases hpick with d0 | ⟨d0, rfl⟩
        all_goals
          go_wp2_with ((at_builtin; refine Lib.wpList_append_own_string _ rfl _ _ 86 9 rfl w.heap.size 5 i0 Try.underlying86 Try.underlying9 HI.out.1 HI.out.2.1 HI.out.2.2.1 HI.out.2.2.2 _ d.length (cellsB d) rfl hown fd rfl (by unfold maxLen; omega) (by omega) hbase ?_; intro v' w5 hown' hgrow _; (have K5 := KA.out _ _ hown' hgrow); (have hb5 := (hgrow.block _ (lt_of_block hb) (fun e => HOb.out _ e.symm rfl)).trans hb); (have t5 := cell_of hb5 1); (simp only [List.getElem?_toArray, List.getElem?_cons_succ, List.getElem?_cons_zero] at t5); (clear hown' hgrow hb5)))
          go_roundw
          case rel => exact ⟨v', k + 1, d', rfl, by go_num, K5, hdl', hk1, HR1.out.1, HR1.out.2⟩
          case measure => simp [intOf]; omega
      · have hfin : S.scan (S.held.length + 1) 0 [] = (d', k + 1, true) := by
          rw [← HN.out, ← HSc.out, show N + 1 - k = (N - k) + 1 by omega, scan_end HG.out HB.out rfl, HD'.out]
        have HF := Lib.hid hfin
        clear hfin
        rcases hpick with d0 | ⟨d0, rfl⟩
        all_goals
          go_wp2_with ((at_builtin; refine Lib.wpList_append_own_string _ rfl _ _ 86 9 rfl w.heap.size 5 i0 Try.underlying86 Try.underlying9 HI.out.1 HI.out.2.1 HI.out.2.2.1 HI.out.2.2.2 _ d.length (cellsB d) rfl hown fd rfl (by unfold maxLen; omega) (by omega) hbase ?_; intro v' w5 hown' hgrow _; (have K5 := KA.out _ _ hown' hgrow); (have hb5 := (hgrow.block _ (lt_of_block hb) (fun e => HOb.out _ e.symm rfl)).trans hb); (have t5 := cell_of hb5 1); (simp only [List.getElem?_toArray, List.getElem?_cons_succ, List.getElem?_cons_zero] at t5); (have cv := conv_own _ _ _ _ K5.2.1); (clear hown' hgrow hb5)))
          go_ret3
          exact ⟨ret_sc1 HF.out (by omega), K5.2.2⟩
end Go.Proofs.Ytcfgbfabokhjcaa
