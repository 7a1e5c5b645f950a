/- Contracts of chapter 19's loops over maps: upto, least, let. -/
import Derived.Test.YtcfgbfabokhjcaaFns2
namespace Go.Proofs.Ytcfgbfabokhjcaa
namespace Plain
open Go
theorem foldl_min_perm {l l' : List Int} (h : l.Perm l') : ∀ a : Int, l.foldl min a = l'.foldl min a := by
  induction h with
  | nil => intro a; rfl
  | cons x _ ih => intro a; exact ih _
  | swap x y l => intro a; simp only [List.foldl_cons]; congr 1; omega
  | trans _ _ h1 h2 => intro a; rw [h1, h2]
theorem foldl_min_le (l : List Int) : ∀ a : Int, l.foldl min a ≤ a := by
  induction l with
  | nil => intro a; exact Int.le_refl _
  | cons x l ih => intro a; have := ih (min a x); simp only [List.foldl_cons]; omega
theorem foldl_min_lo {l : List Int} {c : Int} (hl : ∀ x ∈ l, c ≤ x) : ∀ a : Int, c ≤ a → c ≤ l.foldl min a := by
  induction l with
  | nil => intro a h; exact h
  | cons x l ih =>
    intro a h
    have := hl x List.mem_cons_self
    exact ih (fun y hy => hl y (List.mem_cons_of_mem _ hy)) _ (by omega)
theorem foldl_min_mem {l : List Int} : ∀ a x : Int, x ∈ l → l.foldl min a ≤ x := by
  induction l with
  | nil => intro a x h; cases h
  | cons y l ih =>
    intro a x h
    simp only [List.foldl_cons]
    rcases List.mem_cons.1 h with rfl | h
    · have := foldl_min_le l (min a x); omega
    · exact ih _ x h

/-- the least so far. -/
def minS (R n : Int) (l : List (Int × Int)) : Int := (l.map fun p => sgn R n p.2).foldl min R
theorem minS_snoc (R n : Int) (l : List (Int × Int)) (p : Int × Int) : minS R n (l ++ [p]) = min (minS R n l) (sgn R n p.2) := by simp [minS, List.foldl_append]
theorem minS_bd {R n : Int} (h : IsRing R) (l : List (Int × Int)) : -16777216 ≤ minS R n l ∧ minS R n l ≤ R := by
  refine ⟨foldl_min_lo (fun x hx => ?_) R (by rcases h with e | e <;> omega), foldl_min_le _ _⟩
  obtain ⟨p, _, rfl⟩ := List.mem_map.1 hx
  have := sgn_bd (n := n) (q := p.2) h
  rcases h with e | e <;> omega
theorem upto_end {R n : Int} {l done : List (Int × Int)} (hp : done.Perm l) (h0 : ∀ p ∈ done, 0 ≤ p.2) : uptoL R n l = if minS R n done = R then -1 else minS R n done := by
  unfold uptoL
  have : l.any (fun p => decide (p.2 < 0)) = false := by
    rw [List.any_eq_false]
    intro p hp'
    have := h0 p (hp.mem_iff.2 hp')
    simp; omega
  rw [this]
  have e : minS R n l = minS R n done := foldl_min_perm (hp.symm.map _) R
  simp only [Bool.false_eq_true, if_false]
  rw [← e]
  rfl
theorem upto_none {R n : Int} {l : List (Int × Int)} {p : Int × Int} (hp : p ∈ l) (h : p.2 < 0) : uptoL R n l = -1 := by
  unfold uptoL
  have : l.any (fun p => decide (p.2 < 0)) = true := List.any_eq_true.2 ⟨p, hp, by simpa using h⟩
  rw [this]
  rfl
def minO (R n : Int) (l : List (Int × Fr)) : Int := (l.map fun p => off R n p.1).foldl min R
theorem minO_snoc (R n : Int) (l : List (Int × Fr)) (p : Int × Fr) : minO R n (l ++ [p]) = min (minO R n l) (off R n p.1) := by simp [minO, List.foldl_append]
theorem minO_bd {R n : Int} (h : IsRing R) (l : List (Int × Fr)) : 0 ≤ minO R n l ∧ minO R n l ≤ R := by
  refine ⟨foldl_min_lo (fun x hx => ?_) R (by rcases h with e | e <;> omega), foldl_min_le _ _⟩
  obtain ⟨p, _, rfl⟩ := List.mem_map.1 hx
  exact (off_bd (n := n) (q := p.1) h).1
end Plain
open Go.RowKit
open Plain

theorem ret_int {a b : Int} (h : a = b) : Ending.returned (.int .i64 a) = .returned (.int .i64 b) := by rw [h]
theorem least_end {S : J} {done : List (Int × Fr)} (hp : done.Perm (hm S.held)) : S.least = minO S.R S.next done := by
  have e : minO S.R S.next done = minO S.R S.next (hm S.held) := foldl_min_perm (hp.map _) S.R
  rw [e]
  simp [J.least, leastL, minO, hm, List.map_map]
  rfl

theorem perm_step {α : Type} {done todo l : List (Int × α)} {q : Int} {y : α} (h : (done ++ todo).Perm l) (hn : (todo.map (·.1)).Nodup) (hm : (q, y) ∈ todo) : ((done ++ [(q, y)]) ++ strike todo q).Perm l := by
  have := strike_perm hn hm
  refine List.Perm.trans ?_ h
  rw [List.append_assoc]
  exact List.Perm.append_left _ this.symm

set_option maxHeartbeats 1000000 in
theorem upto_any (p bl bh : Nat) (S : J) (w : World) (h : PJ w p bl bh S) : Calls Try.prog 42 #[.pointer (some ⟨p, 0, none⟩)] w fun e w' => e = .returned (.int .i64 S.upto) ∧ Only [] w w' := by
  have c0 := h.c0
  have c4 := h.c4
  have hlk := h.links
  have hR := h.ok.isRing
  have hr0 := h.ok.r0
  obtain ⟨r1, r2⟩ := hr0
  have HL := Lib.hid h.ok.link
  have HP := Lib.hid h
  unfold J.upto
  clear h
  go_enter Try.func42, Try.ntmps42
  go_wp2_with ((at_range; refine wpList_rangeL _ rfl _ 69 rfl 3 3 keyed Try.underlying3 Try.underlying69 (Value.int .i64) bl S.links rfl hlk ?_; intro w0 hr0 hg0 hs0))
  go_frame
  have O0 : Only [] w w0 := Only.of_grown hg0 (fun k hk => by cases hk)
  clear hs0 hg0 c4
  go_loopw [3] (fun m wr => ∃ done todo, Ranging Try.prog 3 (Value.int .i64) wr bl w.heap.size S.links todo ∧ (done ++ todo).Perm S.links ∧ (∀ p ∈ done, 0 ≤ p.2) ∧ m = .int .i64 (minS S.R S.next done) ∧ Only [] w wr) (fun _ wr => wr.rangeLeft bl w.heap.size)
  case atStart => exact ⟨[], S.links, hr0, List.Perm.refl _, by simp, rfl, O0⟩
  case round =>
    clear hr0 O0
    obtain ⟨done, todo, hrg, hperm, hd, rfl, hO⟩ := hrel
    have hmb := minS_bd (n := S.next) hR done
    obtain ⟨m1, m2⟩ := hmb
    have c0' : wr.cell? ⟨p, 0, none⟩ = some (.int .i64 S.R) := (HP.out.only hO (by simp) (by simp) (by simp)).c0
    go_wp2_with ((at_next; refine wpList_nextL _ rfl _ rfl 3 keyed Try.underlying3 (Value.int .i64) bl w.heap.size S.links todo rfl hrg ?_ ?_))
    · rintro rfl
      rw [List.append_nil] at hperm
      have HE := Lib.hid (upto_end (R := S.R) (n := S.next) hperm hd)
      clear hd hperm
      by_cases he : minS S.R S.next done = S.R
      · have d : (minS S.R S.next done == S.R) = true := by simpa using he
        go_wp2
        go_ret
        exact ⟨ret_int (by rw [HE.out, if_pos he]), hO⟩
      · have d : (minS S.R S.next done == S.R) = false := by simpa using he
        go_wp2
        go_ret
        exact ⟨ret_int (by rw [HE.out, if_neg he]), hO⟩
    · intro q y w1 hmem hwf hrg1 hlt hg1 hs1 hen
      have hO1 : Only [] w w1 := hO.trans' (Only.of_grown (S := [w.heap.size]) hg1 (fun k hk => by cases hk; simp)) (fun x hx => by right; simp at hx; omega)
      have hin : (q, y) ∈ S.links := hrg.sub _ hmem
      have hb := HL.out _ hin
      obtain ⟨b1, b2, b3, b4⟩ := hb
      simp only at b1 b2 b3 b4
      have hperm1 := perm_step hperm hrg.todo_nodup hmem
      have HPJ := HP.out.only hO1 (by simp) (by simp) (by simp)
      clear hs1 hrg hO hg1 hperm hwf
      by_cases hy : y < 0
      · have d : decide (y < 0) = true := by simpa using hy
        have HE := Lib.hid (upto_none (R := S.R) (n := S.next) hin hy)
        clear hperm1 hd HPJ
        go_wp2
        go_ret
        exact ⟨ret_int (by rw [HE.out]), hO1⟩
      · have d : decide (y < 0) = false := by simpa using hy
        have hsb := sgn_bd (n := S.next) (q := y) hR
        obtain ⟨s1, s2⟩ := hsb
        have hd1 : ∀ p ∈ done ++ [(q, y)], 0 ≤ p.2 := fun p hp => by
          rcases List.mem_append.1 hp with hp | hp
          · exact hd p hp
          · simp at hp; subst hp; simp; omega
        have HD := Lib.hid hd1
        have HPm := Lib.hid hperm1
        have hcall := signed_any p S.R S.next y w1 hR HP.out.ok.next0 HP.out.ok.next1 (by omega) b4 HPJ.c0 HPJ.c1
        have c0w := HPJ.c0
        have hO2 : Only [] w w1.drew := hO1.drew
        have hrg2 : Ranging Try.prog 3 (Value.int .i64) w1.drew bl w.heap.size S.links (strike todo q) := hrg1
        have hlt2 : w1.drew.rangeLeft bl w.heap.size < wr.rangeLeft bl w.heap.size := hlt
        have HS := Lib.hid (minS_snoc S.R S.next done (q, y))
        clear hd hd1 hperm1 hin HPJ hrg1 hlt hO1 c0'
        go_wp2_with (first | ((with_reducible apply wpList_min); (focus rfl); (focus rfl)) | (go_at_call 50; refine hcall.mono ?_; rintro e w' ⟨rfl, rfl⟩))
        go_roundw
        case rel => exact ⟨done ++ [(q, y)], strike todo q, hrg2, HPm.out, HD.out, by rw [HS.out], hO2⟩
        case measure => exact hlt2

set_option maxHeartbeats 1000000 in
theorem least_any (p bl bh : Nat) (S : J) (w : World) (h : PJ w p bl bh S) : Calls Try.prog 45 #[.pointer (some ⟨p, 0, none⟩)] w fun e w' => e = .returned (.int .i64 S.least) ∧ Only [] w w' := by
  have c0 := h.c0
  have c5 := h.c5
  have hlk := h.held
  have hR := h.ok.isRing
  have hr0 := h.ok.r0
  obtain ⟨r1, r2⟩ := hr0
  have HL := Lib.hid h.ok.frag
  have HP := Lib.hid h
  have HE := Lib.hid (fun done hp => least_end (S := S) (done := done) hp)
  clear h
  generalize hH : hm S.held = H at *
  go_enter Try.func45, Try.ntmps45
  go_wp2_with ((at_range; refine wpList_rangeL _ rfl _ 70 rfl 3 33 keyed Try.underlying3 Try.underlying70 frV bh H rfl hlk ?_; intro w0 hr0 hg0 hs0))
  go_frame
  have O0 : Only [] w w0 := Only.of_grown hg0 (fun k hk => by cases hk)
  clear hs0 hg0 c5
  go_loopw [3] (fun m wr => ∃ done todo, Ranging Try.prog 3 frV wr bh w.heap.size H todo ∧ (done ++ todo).Perm H ∧ m = .int .i64 (minO S.R S.next done) ∧ Only [] w wr) (fun _ wr => wr.rangeLeft bh w.heap.size)
  case atStart => exact ⟨[], H, hr0, List.Perm.refl _, rfl, O0⟩
  case round =>
    clear hr0 O0
    obtain ⟨done, todo, hrg, hperm, rfl, hO⟩ := hrel
    have hmb := minO_bd (n := S.next) hR done
    obtain ⟨m1, m2⟩ := hmb
    go_wp2_with ((at_next; refine wpList_nextL _ rfl _ rfl 3 keyed Try.underlying3 frV bh w.heap.size H todo rfl hrg ?_ ?_))
    · rintro rfl
      rw [List.append_nil] at hperm
      have HE2 := Lib.hid (HE.out done hperm)
      clear hperm
      go_wp2
      go_ret
      exact ⟨ret_int (by rw [HE2.out]), hO⟩
    · intro q y w1 hmem hwf hrg1 hlt hg1 hs1 hen
      have hO1 : Only [] w w1 := hO.trans' (Only.of_grown (S := [w.heap.size]) hg1 (fun k hk => by cases hk; simp)) (fun x hx => by right; simp at hx; omega)
      have hin : (q, y) ∈ hm S.held := by rw [hH]; exact hrg.sub _ hmem
      have hb : 0 ≤ q ∧ q < S.R := by
        obtain ⟨f, hf, e⟩ := List.mem_map.1 hin
        cases e
        exact ⟨(HL.out _ hf).1, (HL.out _ hf).2.1⟩
      obtain ⟨b3, b4⟩ := hb
      have hperm1 := perm_step hperm hrg.todo_nodup hmem
      have HPJ := HP.out.only hO1 (by simp) (by simp) (by simp)
      have hsb := off_bd (n := S.next) (q := q) hR
      obtain ⟨s1, s2⟩ := hsb
      have HPm := Lib.hid hperm1
      have hcall := offset_any p S.R S.next q w1 hR HP.out.ok.next0 HP.out.ok.next1 b3 b4 HPJ.c0 HPJ.c1
      have hO2 : Only [] w w1.drew := hO1.drew
      have hrg2 : Ranging Try.prog 3 frV w1.drew bh w.heap.size H (strike todo q) := hrg1
      have hlt2 : w1.drew.rangeLeft bh w.heap.size < wr.rangeLeft bh w.heap.size := hlt
      have HS := Lib.hid (minO_snoc S.R S.next done (q, y))
      have HH := Lib.hid hH
      clear hs1 hrg hO hg1 hperm hwf hperm1 hin HPJ hrg1 hlt hO1 hmem hH
      go_wp2_with (first | ((with_reducible apply wpList_min); (focus rfl); (focus rfl)) | (go_at_call 33; refine hcall.mono ?_; rintro e w' ⟨rfl, rfl⟩))
      go_roundw
      case rel => exact ⟨done ++ [(q, y)], strike todo q, hrg2, HPm.out, by rw [HS.out], hO2⟩
      case measure => exact hlt2
end Go.Proofs.Ytcfgbfabokhjcaa
