/- Chapter 19: the contract of cuts: packets in fragments, one number behind the other. -/
import Derived.Test.YtcfgbfabokhjcaaLoss
namespace Go.Proofs.Ytcfgbfabokhjcaa
namespace Plain
open Go
theorem fbytes_snoc (l : List Fr) (f : Fr) : fbytes (l ++ [f]) = fbytes l ++ f.d.data.toList := by simp [fbytes]
theorem frs_bytes (s : ByteArray) (k q : Int) : ∀ n, fbytes (Cutp.frs s (fun _ => k) 1 q 4096 n) = s.data.toList.take (Cutp.pos s.size (fun _ => k) 1 n)
  | 0 => by simp [Cutp.frs, fbytes, Cutp.pos]
  | n + 1 => by
    rw [Cutp.frs_succ, fbytes_snoc, frs_bytes s k q n]
    exact fT_d n
theorem row_more {fs : List Fr} {R : Nat → List ByteArray} (h : Row fs R) {s : ByteArray} {k : Int} {n : Nat} (hk : CutT s k n) (hq : fs.length + n ≤ 1000) :
    Row (fs ++ Cutp.frs s (fun _ => k) 1 fs.length 4096 n) (moreR fs.length R s) := by
  have hlen := Cutp.frs_length s (fun _ => k) 1 fs.length 4096 n
  refine h.snoc (by rw [hlen]; exact hk.n1) (fun i hi => ?_) (fun i hi => ?_) (fun i hi => ?_) (fun i hi => ?_) ?_
  · rw [Cutp.frs_get]
    show ((fs.length : Int) + (i : Int)) % 4096 = _
    omega
  · rw [Cutp.frs_get]
    show (s.extract _ _).size ≤ _
    rw [ByteArray.size_extract]
    have := hk.size
    omega
  · rw [Cutp.frs_get]
    rfl
  · rw [Cutp.frs_get, hlen]
    rw [hlen] at hi
    exact fT_e hk hi
  · rw [frs_bytes, hk.cuts.top]
    exact List.take_of_length_le (Nat.le_refl _)
end Plain
open Go.RowKit
open Plain
/-- a row of strings that came in. -/
def StrRow (w : World) (a : Option Addr) (len : Nat) (ss : List ByteArray) : Prop :=
  (a = none ∧ len = 0) ∨ ∃ x : Addr, a = some x ∧ len ≤ maxLen ∧ ∀ i, i < len → w.cell? (x.add i) = some (.string (ss.getD i ByteArray.empty)) ∧ (ss.getD i ByteArray.empty).size ≤ maxLen
theorem strRow_at {w : World} {a : Option Addr} {len : Nat} {ss : List ByteArray} (h : StrRow w a len ss) (i : Nat) (hi : i < len) :
    ∃ b off, a = some ⟨b, off, none⟩ ∧ b < w.heap.size ∧ w.cell? ⟨b, off + i, none⟩ = some (.string (ss.getD i ByteArray.empty)) ∧ (ss.getD i ByteArray.empty).size ≤ 9223372036854775807 := by
  rcases h with ⟨_, rfl⟩ | ⟨⟨b, off, spot⟩, rfl, _, hc⟩
  · omega
  · obtain ⟨h1, h2⟩ := hc i hi
    have hs : spot = none := by simpa [Addr.add] using World.cell?_spot (hc 0 (by omega)).1
    subst hs
    rw [Addr.add_lit] at h1
    exact ⟨b, off, rfl, World.block_lt_of_cell? w _ h1, h1, by unfold maxLen at h2; omega⟩
theorem strRow_len {w : World} {a : Option Addr} {len : Nat} {ss : List ByteArray} (h : StrRow w a len ss) : len ≤ 9223372036854775807 := by
  rcases h with ⟨_, rfl⟩ | ⟨_, _, hl, _⟩
  · omega
  · unfold maxLen at hl; omega
theorem StrRow.below {w w' : World} {a : Option Addr} {len : Nat} {ss : List ByteArray} (h : StrRow w a len ss) (hb : Below w.heap.size w w') : StrRow w' a len ss := by
  rcases h with h | ⟨x, rfl, hl, hc⟩
  · exact .inl h
  · exact .inr ⟨x, rfl, hl, fun i hi => ⟨(hb.cell (World.block_lt_of_cell? w _ (hc i hi).1)).trans (hc i hi).1, (hc i hi).2⟩⟩

/-- the two rows that cuts builds. -/
structure CW (w0 w : World) (aof : Option Addr) (capf : Nat) (fs : List Fr) (aow : Option Addr) (capw : Nat) (want : List ByteArray) : Prop where
  fs : Sl w 33 4 aof fs.length capf (Cutp.flatF fs)
  want : Sl w 9 1 aow want.length capw (want.map Value.string)
  bf : ∀ k, blk aof = some k → w0.heap.size ≤ k
  bw : ∀ k, blk aow = some k → w0.heap.size ≤ k
  ne : ∀ k, blk aof = some k → blk aow ≠ some k
  only : Only [] w0 w
theorem CW.nil (w : World) : CW w w none 0 [] none 0 [] := ⟨Sl.nil _ _ _, Sl.nil _ _ _, by simp [blk], by simp [blk], by simp [blk], Only.refl _ _⟩
theorem CW.quiet {w0 w w' : World} {aof : Option Addr} {capf : Nat} {fs : List Fr} {aow : Option Addr} {capw : Nat} {want : List ByteArray} (h : CW w0 w aof capf fs aow capw want) (o : Only [] w w') : CW w0 w' aof capf fs aow capw want :=
  ⟨h.fs.only o (by simp), h.want.only o (by simp), h.bf, h.bw, h.ne, h.only.trans o⟩
theorem flatF_app (a b : List Fr) : Cutp.flatF (a ++ b) = Cutp.flatF a ++ Cutp.flatF b := by simp [Cutp.flatF]
theorem CW.appF {w0 w w' : World} {aof aof' : Option Addr} {capf cap' : Nat} {fs l : List Fr} {aow : Option Addr} {capw : Nat} {want : List ByteArray} (h : CW w0 w aof capf fs aow capw want)
    (hs : Sl w' 33 4 aof' (fs.length + l.length) cap' (Cutp.flatF fs ++ Cutp.flatF l)) (hg : w.grownBy w' (blk aof)) (hb : blk aof' = blk aof ∨ blk aof' = some w.heap.size) : CW w0 w' aof' cap' (fs ++ l) aow capw want := by
  have ho : Only (blk aof).toList w w' := Only.of_grown hg (fun k hk => by rw [hk]; simp)
  have hsz := h.only.size
  refine ⟨by rw [List.length_append, flatF_app]; exact hs, h.want.only ho (fun k hk hm => h.ne k (by simpa using hm) hk), ?_, h.bw, ?_, h.only.trans' ho (fun k hk => .inr (h.bf k (by simpa using hk)))⟩
  · intro k hk
    rcases hb with e | e
    · exact h.bf k (e.symm.trans hk)
    · rw [e] at hk; simp at hk; omega
  · intro k hk
    rcases hb with e | e
    · exact h.ne k (e.symm.trans hk)
    · rw [e] at hk
      simp at hk
      intro c
      have := h.want.lt c
      omega
theorem CW.appW {w0 w w' : World} {aof : Option Addr} {capf : Nat} {fs : List Fr} {aow aow' : Option Addr} {capw cap' : Nat} {want : List ByteArray} {s : ByteArray} (h : CW w0 w aof capf fs aow capw want)
    (hs : Sl w' 9 1 aow' (want.length + 1) cap' (want.map Value.string ++ [.string s])) (hg : w.grownBy w' (blk aow)) (hb : blk aow' = blk aow ∨ blk aow' = some w.heap.size) : CW w0 w' aof capf fs aow' cap' (want ++ [s]) := by
  have ho : Only (blk aow).toList w w' := Only.of_grown hg (fun k hk => by rw [hk]; simp)
  have hsz := h.only.size
  refine ⟨h.fs.only ho (fun k hk hm => h.ne k hk (by simpa using hm)), by rw [List.length_append, List.map_append]; exact hs, h.bf, ?_, ?_, h.only.trans' ho (fun k hk => .inr (h.bw k (by simpa using hk)))⟩
  · intro k hk
    rcases hb with e | e
    · exact h.bw k (e.symm.trans hk)
    · rw [e] at hk; simp at hk; omega
  · intro k hk c
    rcases hb with e | e
    · exact h.ne k hk (e.symm.trans c)
    · rw [e] at c
      simp at c
      have := h.fs.lt hk
      omega
theorem frs_src {w : World} {ao : Option Addr} {cap n : Nat} {l : List Fr} (h : Sl w 33 4 ao n cap (Cutp.flatF l)) : Src w 4 ao n (Cutp.flatF l) := h.src (fun u hu => by
  unfold Cutp.flatF at hu
  obtain ⟨f, _, hf⟩ := List.mem_flatMap.1 hu
  exact Cutp.four_cells _ _ _ _ u hf)

theorem str_some {s : ByteArray} (h : ¬ s.size = 0) : s.toList.isEmpty = false := by
  rw [ByteArray.toList_eq]
  cases hl : s.data.toList with
  | nil =>
    exfalso
    refine h ?_
    have := congrArg List.length hl
    simpa using this
  | cons _ _ => rfl
/-- the length of a fragment fits. -/
theorem cut_len (L : Nat) (k : Int) (_n q : Nat) (h1 : 1 ≤ L) (h3 : L ≤ 300) (hk1 : 1 + (L : Int) / 40 ≤ k) (hk2 : k ≤ 100) (hq : q ≤ 768) : ¬ Cutp.Bad L (fun _ => k) 1 (q : Int) true := by
  intro c
  have := (Cutp.bad_one L k q true).1 c
  have hr : ring true = 4096 := rfl
  rw [hr] at this
  omega
/-- what cuts gives. -/
def CutsPost (w : World) (e : Ending) (w' : World) : Prop :=
  ∃ aof capf fs aow capw want R, e = .returned (.tuple #[.slice aof fs.length capf, .slice aow want.length capw]) ∧ CW w w' aof capf fs aow capw want ∧ Row fs R ∧ R 0 = want ∧ fs.length ≤ 1000 ∧ want.length ≤ 12

set_option maxRecDepth 100000 in
set_option maxHeartbeats 4000000 in
theorem cuts_any (a0 : Option Addr) (len0 cap0 : Nat) (z0 : List ByteArray) (a1 : Int) (w : World) (w0 : StrRow w a0 len0 z0) :
    Calls Try.prog 26 #[.slice a0 len0 cap0, .int .i64 a1, .int .i64 0, .bool true] w (CutsPost w) := by
  have L0 := and_63 a1
  have hlen := strRow_len w0
  obtain ⟨i9, hi9, hz9, hsz9, hby9⟩ := info_parts info9
  obtain ⟨i39, hi39, hz39, hsz39, hby39⟩ := info_parts Cutp.info39
  have r31 : 0 ≤ a1 % 64 := by omega
  have r32 : a1 % 64 < 64 := by omega
  generalize a1 % 64 = q at *
  go_enter Try.func26, Try.ntmps26
  go_wp2_with fail
  go_loopw [2, 10, 11, 12] (fun n x y i wr => ∃ (t : Nat) (aof aow : Option Addr) (capf capw : Nat) (fs : List Fr) (want : List ByteArray) (R : Nat → List ByteArray), n = .int .i64 fs.length ∧ x = .slice aof fs.length capf ∧ y = .slice aow want.length capw ∧ i = .int .i64 t ∧ t ≤ 12 ∧ t ≤ len0 ∧ fs.length ≤ 64 * t ∧ want.length ≤ t ∧ CW w wr aof capf fs aow capw want ∧ Row fs R ∧ R 0 = want) (fun _ _ _ i _ => 12 - (intOf i).toNat)
  case atStart => exact ⟨0, none, none, 0, 0, [], [], _, rfl, rfl, rfl, rfl, by omega, by omega, by simp, by simp, CW.nil w, Row.nil, rfl⟩
  case round =>
    obtain ⟨t, aof, aow, capf, capw, fs, want, R, rfl, rfl, rfl, rfl, ht, htl, hfl, hwl, hC, hR, hR0⟩ := hrel
    have HR := Lib.hid (And.intro hR hR0)
    clear hR hR0
    have hfl2 : fs.length ≤ 768 := by omega
    by_cases hl : t < len0 ∧ t < 12
    · obtain ⟨hl1, hl2⟩ := hl
      have d1 : decide (t < len0) = true := by simp; omega
      have d2 : decide ((t : Int) < 12) = true := by simp; omega
      obtain ⟨b0, off0, rfl, hbl0, hc0, hsz⟩ := strRow_at w0 t hl1
      have hcr : wr.cell? ⟨b0, off0 + t, none⟩ = some (.string (z0.getD t ByteArray.empty)) := ((hC.only.below w.heap.size (Nat.le_refl _) (by simp)).cell hbl0).trans hc0
      generalize z0.getD t ByteArray.empty = sx at *
      clear hc0 hbl0
      by_cases h0 : sx.size = 0
      · have e0 : sx = ⟨#[]⟩ := by
          apply ByteArray.ext
          exact Array.eq_empty_of_size_eq_zero h0
        subst e0
        clear h0 hsz
        go_wp2_with fail
        go_roundw
        case rel => exact ⟨t + 1, aof, aow, capf, capw, fs, want, R, rfl, rfl, rfl, by go_num, by omega, by omega, by omega, by omega, hC, HR.out.1, HR.out.2⟩
        case measure => simp [intOf]; omega
      · have d3 := str_some h0
        have hs1 : 1 ≤ sx.size := by omega
        go_upto_if 34 with fail
        go_cut [13] from 32 to 36 (fun v wx => wr = wx ∧ ∃ T : ByteArray, v = .string T ∧ 1 ≤ T.size ∧ T.size ≤ 300)
        case first =>
          by_cases hl3 : 300 < sx.size
          · have d6 : decide ((300 : Int) < (sx.size : Int)) = true := by simp; omega
            go_wp2_with fail
            go_meet
            case rel => exact ⟨rfl, _, rfl, by rw [ByteArray.size_extract]; omega, by rw [ByteArray.size_extract]; omega⟩
          · have d6 : decide ((300 : Int) < (sx.size : Int)) = false := by simp; omega
            go_wp2_with fail
            go_meet
            case rel => exact ⟨rfl, _, rfl, by omega, by omega⟩
        case rest =>
          obtain ⟨rfl, T, rfl, hT1, hT2⟩ := hcut
          clear hcr d3 hs1 h0 hsz
          go_wp2_with fail
          have hk1 : 1 + (T.size : Int) / 40 ≤ 1 + q + (T.size : Int) / 40 := by omega
          have hk2 : 1 + q + (T.size : Int) / 40 ≤ 100 := by omega
          generalize 1 + q + (T.size : Int) / 40 = kk at *
          have hArr : Cutp.Arr (wr.alloc (.cells #[.int .i64 kk] 3)) (some ⟨wr.heap.size, 0, none⟩) 1 (fun _ => kk) := by
            refine ⟨by omega, fun i hi => ⟨wr.heap.size, 0, rfl, by simp, ?_, by show _ ≤ kk; omega, by show kk ≤ _; omega⟩⟩
            have := cell_of (heap_alloc_new' wr (.cells #[.int .i64 kk] 3)) 0
            have e : i = 0 := by omega
            subst e
            exact this
          refine (Cutp.rcut_any T _ 1 1 (fun _ => kk) fs.length true _ (by omega) hArr).mono ?_
          rintro e wf ⟨of, hbad | ⟨_, n, aol, capl, hn64, hcuts, rfl, hl0, hlb⟩⟩
          · exact absurd hbad.1 (cut_len T.size kk fs.length fs.length hT1 hT2 hk1 hk2 hfl2)
          have hCT : CutT T kk n := ⟨hcuts, hn64, by omega, hT1, by omega⟩
          have of2 : Only [] wr wf := ((Only.refl [] wr).alloc _).trans of
          have hC2 := hC.quiet of2
          have HM := Lib.hid (row_more HR.out.1 hCT (by omega))
          have hr0 : moreR fs.length R T 0 = want ++ [T] := by unfold moreR; rw [if_pos (Nat.zero_le _), HR.out.2]
          have HR0 := Lib.hid hr0
          have hln := Cutp.frs_length T (fun _ => kk) 1 fs.length 4096 n
          have hr : ring true = 4096 := rfl
          rw [hr] at hl0
          clear hArr of of2 hcuts hC HR hr hr0 hCT
          generalize Cutp.frs T (fun _ => kk) 1 fs.length 4096 n = l at *
          have hlsl := hl0
          have hmod : ((fs.length : Int) + (n : Int)) % ring true = ((fs ++ l).length : Int) := by
            have e : ring true = 4096 := rfl
            rw [e, List.length_append, hln]
            omega
          have HMod := Lib.hid hmod
          have HLN := Lib.hid hln
          clear hmod hln hl0
          go_upto_region 13 with (go_at_call 37; refine (Cutp.ring16 _ _).mono ?_; rintro e w' ⟨rfl, rfl⟩)
          have hsrc : Src wf 4 aol n (Cutp.flatF l) := frs_src hlsl
          have hF := hC2.fs
          go_upto_region 14 with (at_builtin; refine wpList_append_src _ rfl (.tmp 61) (.tmp 62) 46 rfl 33 i39 _ 4 32 Try.underlying46 hi39 hz39 hsz39 hby39 rfl _ _ _ _ rfl hF _ _ _ _ rfl hsrc (by unfold maxLen; omega) (by omega) ?_; intro aof' capf' w6 hs6 hg6 hb6)
          rw [← HLN.out] at hs6
          have hC3 := hC2.appF hs6 hg6 hb6
          have hW := hC3.want
          have hfl3 : (fs ++ l).length ≤ 64 * (t + 1) := by rw [List.length_append, HLN.out]; omega
          have HLN2 := Lib.hid (show fs.length + n = (fs ++ l).length by rw [List.length_append, HLN.out])
          clear hs6 hg6 hb6 hsrc hF hC2 hlsl HLN
          go_wp2_with (at_builtin; refine wpList_append_sl _ rfl (.tmp 64) (.tmp 66) 38 rfl 9 i9 (.string ⟨#[]⟩) 1 16 Try.underlying38 hi9 hz9 hsz9 hby9 rfl aow want.length capw _ rfl (hW.only (Only.alloc (Only.refl [] _) _) (by simp)) ⟨_, 0, none⟩ 1 1 [.string T] rfl rfl (cells_new _ _ _) (by simp; rfl) (by unfold maxLen; omega) (by omega) ?_; intro aow' capw' w7 hs7 hg7 hb7)
          have hC4 := (hC3.quiet ((Only.refl [] w6).alloc _)).appW hs7 hg7 hb7
          clear hs7 hg7 hb7 hC3 hW
          go_roundw
          case rel => exact ⟨t + 1, aof', aow', capf', capw', fs ++ l, want ++ [T], _, by rw [HMod.out], by rw [HLN2.out], by rw [List.length_append]; rfl, by go_num, by omega, by omega, hfl3, by rw [List.length_append]; simp; omega, hC4, HM.out, HR0.out⟩
          case measure => simp [intOf]; omega
    · have hdd : (decide (t < len0) = false) ∨ (decide (t < len0) = true ∧ decide ((t : Int) < 12) = false) := by
        by_cases h1 : t < len0
        · right
          refine ⟨by simpa using h1, by simp; omega⟩
        · left
          simpa using h1
      have HP : Hid (CutsPost w (.returned (.tuple #[.slice aof fs.length capf, .slice aow want.length capw])) wr) := ⟨aof, capf, fs, aow, capw, want, R, rfl, hC, HR.out.1, HR.out.2, by omega, by omega⟩
      clear hl hC HR
      rcases hdd with d1 | ⟨d1, d2⟩
      · go_wp2_with fail
        go_ret2
        exact HP.out
      · go_wp2_with fail
        go_ret2
        exact HP.out
end Go.Proofs.Ytcfgbfabokhjcaa
