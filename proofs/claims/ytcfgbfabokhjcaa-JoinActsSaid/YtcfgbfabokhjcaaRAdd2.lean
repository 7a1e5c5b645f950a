/- Chapter 19: contracts of the document's own reassembly: Add. -/
import Derived.Test.YtcfgbfabokhjcaaRAdd
namespace Go.Proofs.Ytcfgbfabokhjcaa
open Go.RowKit
open Plain

/-- the row that Add builds. -/
def AL (w0 w : World) (ao : Option Addr) (cap : Nat) (L : List (Int × Int)) : Prop := Sl w 75 2 ao L.length cap (flatL L) ∧ (∀ j, blk ao = some j → w0.heap.size ≤ j) ∧ Only [] w0 w
theorem AL.app {w0 w w' : World} {ao ao' : Option Addr} {cap cap' : Nat} {L : List (Int × Int)} {a b : Int} {o : Obj} (h : AL w0 w ao cap L) (hs : Sl w' 75 2 ao' (L.length + 1) cap' (flatL L ++ [.int .i64 a, .int .i64 b])) (hg : (w.alloc o).grownBy w' (blk ao)) (hb : blk ao' = blk ao ∨ blk ao' = some (w.alloc o).heap.size) : AL w0 w' ao' cap' (L ++ [(a, b)]) := by
  have o1 : Only [] w0 (w.alloc o) := h.2.2.alloc o
  refine ⟨?_, fun j hj => ?_, o1.trans' (Only.of_grown (S := (blk ao).toList) hg (fun j hj => by rw [hj]; simp)) (fun x hx => .inr (h.2.1 x (by simpa using hx)))⟩
  · rw [List.length_append, flatL_app]
    exact hs
  · rcases hb with e | e
    · exact h.2.1 j (e.symm.trans hj)
    · rw [e] at hj
      have := o1.size
      simp at hj
      simp at this
      omega
theorem AL.own {w0 w : World} {ao : Option Addr} {cap : Nat} {L : List (Int × Int)} (h : AL w0 w ao cap L) (o : Obj) : Sl (w.alloc o) 75 2 ao L.length cap (flatL L) := h.1.only ((Only.refl [] w).alloc o) (by simp)
theorem add_ok0 {S : J} (h : S.Ok) {q : Int} (hq : q ≤ 9223372036854775807) (he : addE S q = 0) {L : List (Int × Int)} (hp : L.Perm (S.links ++ [(q, -1)])) : J.Ok { S with links := L } := by
  have h1 := addS_ok h q hq
  unfold addS at h1
  rw [if_pos he] at h1
  exact relink_ok (S := { S with links := S.links ++ [(q, -1)] }) hp h1
theorem perm_mid {α : Type} (l : List α) (a b : α) (x : List α) (h : x.Perm (l ++ [a])) : (x ++ [b]).Perm (l ++ [b] ++ [a]) := by
  refine (h.append_right [b]).trans ?_
  rw [List.append_assoc, List.append_assoc]
  exact (List.Perm.refl l).append (List.Perm.swap _ _ _)

/-- what Add gives. -/
def AddPost (m : RM) (S : J) (q : Int) (w : World) (c : Int) (e : Ending) (w' : World) : Prop :=
  ∃ m' L, e = .returned (.int .i64 c) ∧ (c ≠ 0 → L = S.links) ∧ (c = 0 → L.Perm (S.links ++ [(q, -1)])) ∧ RJ w' m' { S with links := L } ∧ RStep w w' m m'

set_option maxRecDepth 100000 in
set_option maxHeartbeats 4000000 in
theorem radd_any (m : RM) (S : J) (q : Int) (w : World) (h : RJ w m S) (q0 : -9223372036854775808 ≤ q) (q1 : q ≤ 9223372036854775807) :
    Calls Try.prog 17 #[.pointer (some ⟨m.r, 0, none⟩), .int .i64 q] w (AddPost m S q w (addE S q)) := by
  have hp := place_any m S q w h
  have HH := Lib.hid h
  have hl8 := h.ok.links8
  have HBad := Lib.hid (fun (hne : addE S q ≠ 0) => show AddPost m S q w (addE S q) (.returned (.int .i64 (addE S q))) w from ⟨m, S.links, rfl, fun _ => rfl, fun c => absurd c hne, h, RStep.refl _ _⟩)
  clear h
  by_cases hneg : q < 0
  · have he : addE S q = 1900 := by unfold addE; rw [if_pos (.inl hneg)]
    have hB := HBad.out (by rw [he]; decide)
    rw [he] at hB ⊢
    have HB := Lib.hid hB
    have d : decide (q < 0) = true := by simpa using hneg
    clear hB HBad hp HH he
    obtain ⟨r, al, cl, ah, ch⟩ := m
    go_enter Try.func17, Try.ntmps17
    go_wp2_with fail
    go_ret
    exact HB.out
  have d : decide (q < 0) = false := by simpa using hneg
  rcases place_cases S q with ⟨e1, e2⟩ | ⟨k, hk, e1, hq, e2⟩
  rotate_left
  · rw [e1] at hp
    have he : addE S q = 1900 := by unfold addE; rw [if_pos (.inr e2)]
    have hB := HBad.out (by rw [he]; decide)
    rw [he] at hB ⊢
    have HB := Lib.hid hB
    clear hB HBad HH he e1 hq e2
    obtain ⟨r, al, cl, ah, ch⟩ := m
    go_enter Try.func17, Try.ntmps17
    go_wp2_with (go_at_call 31; refine hp.mono ?_; rintro e w' ⟨rfl, rfl⟩)
    go_ret
    exact HB.out
  rw [e1] at hp
  by_cases h8 : 8 ≤ S.links.length
  · have he : addE S q = 1901 := by unfold addE; rw [if_neg (by rw [e2]; simp; omega), if_pos h8]
    have hB := HBad.out (by rw [he]; decide)
    rw [he] at hB ⊢
    have HB := Lib.hid hB
    have d8 : decide ((8 : Int) ≤ (S.links.length : Int)) = true := by simp; omega
    obtain ⟨r, al, cl, ah, ch⟩ := m
    have c2 : w.cell? ⟨r, 2, none⟩ = some (.slice al S.links.length cl) := HH.out.c2
    clear hB HBad HH he e1 e2
    go_enter Try.func17, Try.ntmps17
    go_wp2_with (go_at_call 31; refine hp.mono ?_; rintro e w' ⟨rfl, rfl⟩)
    go_ret
    exact HB.out
  have he : addE S q = 0 := by unfold addE; rw [if_neg (by rw [e2]; simp; omega), if_neg h8]
  have HOk := Lib.hid (fun L hL => add_ok0 (L := L) HH.out.ok q1 he hL)
  rw [he]
  have d8 : decide ((8 : Int) ≤ (S.links.length : Int)) = false := by simp; omega
  obtain ⟨r, al, cl, ah, ch⟩ := m
  have c2 : w.cell? ⟨r, 2, none⟩ = some (.slice al S.links.length cl) := HH.out.c2
  obtain ⟨i75, hi75, hz75, hsz75, hby75⟩ := info_parts info75
  have HCells := Lib.hid (show ∀ w', Only [] w w' → w'.cell? ⟨r, 2, none⟩ = some (.slice al S.links.length cl) ∧ ∀ k (hk : k < S.links.length), ∃ gb go, al = some ⟨gb, go, none⟩ ∧ w'.cell? ⟨gb, go + k * 2, none⟩ = some (.int .i64 S.links[k].1) ∧ w'.cell? ⟨gb, go + k * 2 + 1, none⟩ = some (.int .i64 S.links[k].2) from fun w' o => by
    have hw := HH.out.quiet o
    refine ⟨hw.c2, fun k hk => ?_⟩
    obtain ⟨gb, go, hal⟩ := hw.links.some (by omega)
    have hal' : al = some ⟨gb, go, none⟩ := hal
    have hs := hw.links
    simp only [hal'] at hs
    have g := flatL_get S.links k hk
    refine ⟨gb, go, hal', hs.cells _ _ g.1, ?_⟩
    have := hs.cells _ _ g.2
    rw [← Nat.add_assoc] at this
    exact this)
  clear HBad he e1 e2 h8
  go_enter Try.func17, Try.ntmps17
  go_wp2_with (go_at_call 31; refine hp.mono ?_; rintro e w' ⟨rfl, rfl⟩)
  clear hp d8 c2
  go_loopw [5, 6, 7] (fun x dv i wr => ∃ (k : Nat) (L : List (Int × Int)) (ao : Option Addr) (cap : Nat) (dn : Bool), x = .slice ao L.length cap ∧ dv = .bool dn ∧ i = .int .i64 k ∧ k ≤ S.links.length ∧ AL w wr ao cap L ∧ L.Perm (S.links.take k ++ if dn = true then [(q, -1)] else [])) (fun _ _ i _ => S.links.length - (intOf i).toNat)
  case atStart => exact ⟨0, [], none, 0, false, rfl, rfl, rfl, by omega, ⟨Sl.nil _ _ _, by simp [blk], Only.refl _ _⟩, by simp⟩
  case round =>
    obtain ⟨k, L, ao, cap, dn, rfl, rfl, rfl, hk, hA, hP⟩ := hrel
    have hLl : L.length ≤ k + 1 := by
      have := hP.length_eq
      rw [List.length_append, List.length_take] at this
      split at this <;> simp at this <;> omega
    have HA := Lib.hid hA
    have HP := Lib.hid hP
    have hLl9 : L.length ≤ 9 := by omega
    obtain ⟨c2, hcs⟩ := HCells.out wr hA.2.2
    clear hA hP
    by_cases hlt : k < S.links.length
    · have kd : decide (k < S.links.length) = true := by simpa using hlt
      obtain ⟨gb, go, rfl, f0, f1⟩ := hcs k hlt
      have HTk := Lib.hid (List.take_succ_eq_append_getElem hlt)
      have hT : ∀ w', Only [] w w' → w'.cell? ⟨r, 2, none⟩ = some (.slice (some ⟨gb, go, none⟩) S.links.length cl) ∧ w'.cell? ⟨gb, go + k * 2, none⟩ = some (.int .i64 S.links[k].1) ∧ w'.cell? ⟨gb, go + k * 2 + 1, none⟩ = some (.int .i64 S.links[k].2) := fun w' o => by
        obtain ⟨x1, x2⟩ := HCells.out w' o
        obtain ⟨g', o', e', y1, y2⟩ := x2 k hlt
        cases e'
        exact ⟨x1, y1, y2⟩
      have HT := Lib.hid hT
      clear hcs hT
      generalize hlk : S.links[k] = lk at *
      obtain ⟨a, b⟩ := lk
      simp only at f0 f1 HT
      clear hlk
      have two := two_cells
      cases dn
      · by_cases hqa : q < a
        · have dq : decide (q < a) = true := by simpa using hqa
          go_upto_region 13 with (at_builtin; refine wpList_append_sl _ rfl (.tmp 45) (.tmp 48) 45 rfl 75 i75 _ 2 16 Try.underlying45 hi75 hz75 hsz75 hby75 rfl ao L.length cap _ rfl (HA.out.own _) ⟨_, 0, none⟩ 1 1 [.int .i64 q, .int .i64 (-1)] rfl rfl (cells_new _ _ _) (two _ _) (by unfold maxLen; omega) (by omega) ?_; intro ao6 cap6 w6 hs6 hg6 hb6)
          have A6 := HA.out.app hs6 hg6 hb6
          obtain ⟨g2, g0, g1⟩ := HT.out w6 A6.2.2
          have HA6 := Lib.hid A6
          have hl6 : (L ++ [(q, (-1 : Int))]).length = L.length + 1 := by simp
          clear A6 hs6 hg6 hb6 c2 f0 f1
          go_wp2_with (at_builtin; refine wpList_append_sl _ rfl (.tmp 50) (.tmp 58) 45 rfl 75 i75 _ 2 16 Try.underlying45 hi75 hz75 hsz75 hby75 rfl ao6 (L.length + 1) cap6 _ rfl (hl6 ▸ HA6.out.own _) ⟨_, 0, none⟩ 1 1 [.int .i64 a, .int .i64 b] rfl rfl (cells_new _ _ _) (two _ _) (by unfold maxLen; omega) (by omega) ?_; intro ao7 cap7 w7 hs7 hg7 hb7)
          rw [← hl6] at hs7
          have A7 := HA6.out.app hs7 hg7 hb7
          have HA7 := Lib.hid A7
          clear A7 hs7 hg7 hb7
          go_roundw
          case rel => exact ⟨k + 1, L ++ [(q, -1)] ++ [(a, b)], ao7, cap7, true, by simp, rfl, by go_num, by omega, HA7.out, by
            rw [HTk.out, if_pos rfl]
            have := HP.out
            rw [if_neg (by decide), List.append_nil] at this
            exact perm_mid _ _ _ _ (this.append_right _)⟩
          case measure => simp [intOf]; omega
        · have dq : decide (q < a) = false := by simpa using hqa
          go_wp2_with (at_builtin; refine wpList_append_sl _ rfl (.tmp 50) (.tmp 58) 45 rfl 75 i75 _ 2 16 Try.underlying45 hi75 hz75 hsz75 hby75 rfl ao L.length cap _ rfl (HA.out.own _) ⟨_, 0, none⟩ 1 1 [.int .i64 a, .int .i64 b] rfl rfl (cells_new _ _ _) (two _ _) (by unfold maxLen; omega) (by omega) ?_; intro ao7 cap7 w7 hs7 hg7 hb7)
          have HA7 := Lib.hid (HA.out.app hs7 hg7 hb7)
          clear hs7 hg7 hb7
          go_roundw
          case rel => exact ⟨k + 1, L ++ [(a, b)], ao7, cap7, false, by simp, rfl, by go_num, by omega, HA7.out, by
            rw [HTk.out, if_neg (by decide), List.append_nil]
            have := HP.out
            rw [if_neg (by decide), List.append_nil] at this
            exact this.append_right _⟩
          case measure => simp [intOf]; omega
      · go_wp2_with (at_builtin; refine wpList_append_sl _ rfl (.tmp 50) (.tmp 58) 45 rfl 75 i75 _ 2 16 Try.underlying45 hi75 hz75 hsz75 hby75 rfl ao L.length cap _ rfl (HA.out.own _) ⟨_, 0, none⟩ 1 1 [.int .i64 a, .int .i64 b] rfl rfl (cells_new _ _ _) (two _ _) (by unfold maxLen; omega) (by omega) ?_; intro ao7 cap7 w7 hs7 hg7 hb7)
        have HA7 := Lib.hid (HA.out.app hs7 hg7 hb7)
        clear hs7 hg7 hb7
        go_roundw
        case rel => exact ⟨k + 1, L ++ [(a, b)], ao7, cap7, true, by simp, rfl, by go_num, by omega, HA7.out, by
          rw [HTk.out, if_pos rfl]
          have := HP.out
          rw [if_pos rfl] at this
          exact perm_mid _ _ _ _ this⟩
        case measure => simp [intOf]; omega
    · have kd : decide (k < S.links.length) = false := by simpa using hlt
      have hkl : k = S.links.length := by omega
      have HPk := HP.out
      rw [hkl, List.take_length] at HPk
      have HP2 := Lib.hid HPk
      have HFin := Lib.hid (show ∀ w9 (L' : List (Int × Int)) ao' cap' (n : Nat), AL w w9 ao' cap' L' → n = L'.length → L'.Perm (S.links ++ [(q, -1)]) → w9.cell? ⟨r, 2, none⟩ = some (.slice al S.links.length cl) ∧ w9.frozen? ⟨r, 2, none⟩ = false ∧ Hid (AddPost ⟨r, al, cl, ah, ch⟩ S q w 0 (.returned (.int .i64 0)) (w9.setCell ⟨r, 2, none⟩ (.slice ao' n cap'))) from fun w9 L' ao' cap' n hA hn hL => by
        have hset := HH.out.setLinks (H := L') hA.2.2 (by simp) (hn ▸ hA.1) hn (fun j hj => .inr (hA.2.1 j hj)) (HOk.out L' hL)
        have H2 := HH.out.quiet hA.2.2
        exact ⟨H2.c2, H2.fz 2, ⟨_, L', rfl, fun c => absurd rfl c, fun _ => hL, hset.1, hset.2⟩⟩)
      clear HPk hcs hkl
      have two := two_cells
      cases dn
      · have HP3 := Lib.hid (show (L ++ [(q, (-1 : Int))]).Perm (S.links ++ [(q, -1)]) by
          have := HP2.out
          rw [if_neg (by decide), List.append_nil] at this
          exact this.append_right _)
        go_wp2_with (at_builtin; refine wpList_append_sl _ rfl (.tmp 62) (.tmp 65) 45 rfl 75 i75 _ 2 16 Try.underlying45 hi75 hz75 hsz75 hby75 rfl ao L.length cap _ rfl (HA.out.own _) ⟨_, 0, none⟩ 1 1 [.int .i64 q, .int .i64 (-1)] rfl rfl (cells_new _ _ _) (two _ _) (by unfold maxLen; omega) (by omega) ?_; intro ao7 cap7 w7 hs7 hg7 hb7; (have e9 := HFin.out w7 _ ao7 cap7 (L.length + 1) (HA.out.app hs7 hg7 hb7) (by simp) HP3.out); clear hs7 hg7 hb7; obtain ⟨y1, y2, y3⟩ := e9)
        go_ret
        exact y3.out
      · have HP3 := Lib.hid (show L.Perm (S.links ++ [(q, -1)]) by
          have := HP2.out
          rw [if_pos rfl] at this
          exact this)
        obtain ⟨y1, y2, y3⟩ := HFin.out wr L ao cap L.length HA.out rfl HP3.out
        go_wp2_with fail
        go_ret
        exact y3.out
end Go.Proofs.Ytcfgbfabokhjcaa
