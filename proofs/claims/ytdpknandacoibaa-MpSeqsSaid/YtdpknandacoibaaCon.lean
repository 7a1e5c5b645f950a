/- Chapter 8: Put, Mp, Get, Unmp whatever they are handed; there and back, in plain Lean. -/
import Derived.Test.YtdpknandacoibaaUnmp
namespace Go.Proofs.Ytdpknandacoibaa
open Go.RowKit
open Plain

/-- a fragment. -/
structure Fr where
  b : Bool
  e : Bool
  q : Int
  d : ByteArray
def fcells (f : Fr) : Array Value := #[.bool f.b, .bool f.e, .int .i64 f.q, .string f.d]
def zeroF : Fr := ⟨false, false, 0, ⟨#[]⟩⟩

def PutOk (f : Fr) (short : Bool) : Prop := 0 ≤ f.q ∧ f.q < ring short ∧ f.d.size ≤ 2048
instance (f : Fr) (short : Bool) : Decidable (PutOk f short) := by unfold PutOk; infer_instance
def putS (f : Fr) (short : Bool) : ByteArray := if PutOk f short then bytesOf f.b f.e f.q f.d short else ⟨#[]⟩
def putE (f : Fr) (short : Bool) : Int := if PutOk f short then 0 else 801

theorem put_any (f : Fr) (short : Bool) (w : World) :
    Calls Try.prog 7 #[.agg #[.bool f.b, .bool f.e, .int .i64 f.q, .string f.d], .bool short] w fun x w' => x = .returned (.tuple #[.string (putS f short), .int .i64 (putE f short)]) ∧ Only [] w w' := by
  unfold putS putE
  by_cases h : PutOk f short
  · rw [if_pos h, if_pos h]
    obtain ⟨h1, h2, h3⟩ := h
    cases short
    · exact put_long _ _ _ _ _ h1 h2 h3
    · exact put_short _ _ _ _ _ h1 h2 h3
  · rw [if_neg h, if_neg h]
    exact put_bad _ _ _ _ _ _ (by unfold PutOk at h; omega)
theorem mp_any (f : Fr) (short : Bool) (w : World) :
    Calls Try.prog 8 #[.agg #[.bool f.b, .bool f.e, .int .i64 f.q, .string f.d], .bool short] w fun x w' => x = .returned (.tuple #[.string (putS f short), .int .i64 (putE f short)]) ∧ Only [] w w' := by
  unfold putS putE
  by_cases h : PutOk f short
  · rw [if_pos h, if_pos h]
    obtain ⟨h1, h2, h3⟩ := h
    cases short
    · exact mp_long _ _ _ _ _ h1 h2 h3
    · exact mp_short _ _ _ _ _ h1 h2 h3
  · rw [if_neg h, if_neg h]
    exact mp_bad _ _ _ _ _ _ (by unfold PutOk at h; omega)

instance (s : ByteArray) (short : Bool) : Decidable (clean s short) := by unfold clean; infer_instance
def GetForm (s : ByteArray) (short : Bool) : Prop := s.size < hlen short ∨ ¬ clean s short
instance (s : ByteArray) (short : Bool) : Decidable (GetForm s short) := by unfold GetForm; infer_instance
def okF (s : ByteArray) (short : Bool) : Fr := ⟨decide (128 ≤ byteAt s 0), decide (64 ≤ byteAt s 0 % 128), seqOf s short, s.extract (hlen short) s.size⟩
def getF (s : ByteArray) (short : Bool) : Fr := if GetForm s short then zeroF else if 2048 + hlen short < s.size then zeroF else okF s short
def getE (s : ByteArray) (short : Bool) : Int := if GetForm s short then 800 else if 2048 + hlen short < s.size then 801 else 0

theorem get_any (s : ByteArray) (short : Bool) (w : World) (hs : s.size ≤ 9223372036854775807) :
    Calls Try.prog 9 #[.string s, .bool short] w fun x w' => x = .returned (.tuple #[.agg (fcells (getF s short)), .int .i64 (getE s short)]) ∧ Only [] w w' := by
  unfold getF getE
  by_cases h : GetForm s short
  · rw [if_pos h, if_pos h]
    cases short
    · by_cases h1 : s.size < 4
      · exact get_few_false s w h1
      · exact get_form_false s w (by omega) (h.resolve_left h1)
    · by_cases h1 : s.size < 2
      · exact get_few_true s w h1
      · exact get_form_true s w (by omega) (h.resolve_left h1)
  · rw [if_neg h, if_neg h]
    have h1 : hlen short ≤ s.size := by unfold GetForm at h; omega
    have h2 : clean s short := by unfold GetForm at h; exact Decidable.of_not_not fun hh => h (.inr hh)
    by_cases h3 : 2048 + hlen short < s.size
    · rw [if_pos h3, if_pos h3]
      cases short
      · exact get_range_false s w h3 hs h2
      · exact get_range_true s w h3 hs h2
    · rw [if_neg h3, if_neg h3]
      cases short
      · exact get_ok_false s w h1 (by have : ¬ 2048 + 4 < s.size := h3; omega) h2
      · exact get_ok_true s w h1 (by have : ¬ 2048 + 2 < s.size := h3; omega) h2
theorem unmp_any (s : ByteArray) (short : Bool) (w : World) (hs : s.size ≤ 9223372036854775807) :
    Calls Try.prog 10 #[.string s, .bool short] w fun x w' => x = .returned (.tuple #[.agg (fcells (getF s short)), .int .i64 (getE s short)]) ∧ Only [] w w' := by
  unfold getF getE
  by_cases h : GetForm s short
  · rw [if_pos h, if_pos h]
    cases short
    · by_cases h1 : s.size < 4
      · exact unmp_few_false s w h1
      · exact unmp_form_false s w (by omega) (h.resolve_left h1)
    · by_cases h1 : s.size < 2
      · exact unmp_few_true s w h1
      · exact unmp_form_true s w (by omega) (h.resolve_left h1)
  · rw [if_neg h, if_neg h]
    have h1 : hlen short ≤ s.size := by unfold GetForm at h; omega
    have h2 : clean s short := by unfold GetForm at h; exact Decidable.of_not_not fun hh => h (.inr hh)
    by_cases h3 : 2048 + hlen short < s.size
    · rw [if_pos h3, if_pos h3]
      cases short
      · exact unmp_range_false s w h3 hs h2
      · exact unmp_range_true s w h3 hs h2
    · rw [if_neg h3, if_neg h3]
      cases short
      · exact unmp_ok_false s w h1 (by have : ¬ 2048 + 4 < s.size := h3; omega) h2
      · exact unmp_ok_true s w h1 (by have : ¬ 2048 + 2 < s.size := h3; omega) h2

/-! There and back. -/
theorem byteAt_app (l : List Int) (d : ByteArray) (i : Nat) (h : i < l.length) (hb : ∀ x ∈ l, 0 ≤ x ∧ x ≤ 255) : byteAt (strOfNums l ++ d) i = l.getD i 0 := by
  unfold byteAt
  have e : (strOfNums l ++ d).data.toList = (l.map fun n => UInt8.ofNat n.toNat) ++ d.data.toList := by
    rw [ByteArray.data_append, Array.toList_append]; rfl
  rw [e]
  have hx := hb (l[i]'h) (List.getElem_mem _)
  simp only [List.getD_eq_getElem?_getD]
  rw [List.getElem?_append_left (by simpa using h), List.getElem?_map, List.getElem?_eq_getElem h]
  simp only [Option.map_some, Option.getD_some]
  rw [UInt8.toNat_ofNat']
  omega
theorem size_app (l : List Int) (d : ByteArray) : (strOfNums l ++ d).size = l.length + d.size := by rw [ByteArray.size_append, strOfNums_size]
theorem tail_app (l : List Int) (d : ByteArray) : (strOfNums l ++ d).extract l.length (strOfNums l ++ d).size = d := by
  apply ByteArray.ext
  rw [ByteArray.data_extract, ByteArray.data_append, size_app]
  apply Array.ext'
  rw [Array.toList_extract, List.extract_eq_take_drop, Array.toList_append]
  have hl : (strOfNums l).data.toList.length = l.length := by rw [strOfNums_data]; simp
  rw [show l.length + d.size - l.length = d.data.toList.length by simp]
  rw [List.drop_append_of_le_length (by omega), List.drop_of_length_le (by omega), List.nil_append, List.take_length]

theorem hd_bounds (b e : Bool) : hd b e = 0 ∨ hd b e = 64 ∨ hd b e = 128 ∨ hd b e = 192 := by cases b <;> cases e <;> simp [hd]
theorem head_len (b e : Bool) (q : Int) (short : Bool) : (head b e q short).length = hlen short := by cases short <;> rfl

theorem there (f : Fr) (short : Bool) (h : PutOk f short) : getF (putS f short) short = f ∧ getE (putS f short) short = 0 := by
  obtain ⟨b, e, q, d⟩ := f
  have hp : putS ⟨b, e, q, d⟩ short = strOfNums (head b e q short) ++ d := by unfold putS; rw [if_pos h]; rfl
  obtain ⟨h1, h2, h3⟩ := h
  simp only at h1 h2 h3
  rw [hp]
  have hsz := size_app (head b e q short) d
  have htl := tail_app (head b e q short) d
  rw [head_len] at hsz htl
  have hb : ∀ x ∈ head b e q short, 0 ≤ x ∧ x ≤ 255 := by
    have := hd_bounds b e
    cases short
    · have h2' : q < 16777216 := h2
      intro x hx
      simp [head] at hx
      rcases hx with rfl | rfl | rfl | rfl <;> omega
    · have h2' : q < 4096 := h2
      intro x hx
      simp [head] at hx
      rcases hx with rfl | rfl <;> omega
  have B := fun i hi => byteAt_app (head b e q short) d i hi hb
  have hok : ¬ GetForm (strOfNums (head b e q short) ++ d) short ∧ okF (strOfNums (head b e q short) ++ d) short = ⟨b, e, q, d⟩ := by
    cases short
    · have h2' : q < 16777216 := h2
      have b0 := B 0 (by simp [head])
      have b1 := B 1 (by simp [head])
      have b2 := B 2 (by simp [head])
      have b3 := B 3 (by simp [head])
      simp [head] at b0 b1 b2 b3
      constructor
      · rintro (h | h)
        · rw [hsz] at h; omega
        · apply h
          show byteAt _ 0 % 64 = 0
          simp only [head, Bool.false_eq_true, if_false]
          rw [b0]
          have := hd_bounds b e
          omega
      · unfold okF
        rw [htl]
        simp only [head, Bool.false_eq_true, if_false] at b0 b1 b2 b3 ⊢
        unfold seqOf
        simp only [Bool.false_eq_true, if_false]
        rw [b0, b1, b2, b3]
        congr 1
        · cases b <;> cases e <;> simp [hd]
        · cases b <;> cases e <;> simp [hd]
        · omega
    · have h2' : q < 4096 := h2
      have b0 := B 0 (by simp [head])
      have b1 := B 1 (by simp [head])
      simp [head] at b0 b1
      have hh := hd_bounds b e
      constructor
      · rintro (h | h)
        · rw [hsz] at h; omega
        · apply h
          show byteAt _ 0 / 16 % 4 = 0
          simp only [head, if_true]
          rw [b0]
          omega
      · unfold okF
        rw [htl]
        simp only [head, if_true] at b0 b1 ⊢
        unfold seqOf
        simp only [if_true]
        rw [b0, b1]
        congr 1
        · cases b <;> cases e <;> simp [hd] <;> omega
        · cases b <;> cases e <;> simp [hd] <;> omega
        · omega
  have hr : ¬ 2048 + hlen short < (strOfNums (head b e q short) ++ d).size := by rw [hsz]; omega
  unfold getF getE
  rw [if_neg hok.1, if_neg hok.1, if_neg hr, if_neg hr]
  exact ⟨hok.2, rfl⟩

theorem num_byte (s : ByteArray) (i : Nat) (h : i < s.size) : UInt8.ofNat (byteAt s i).toNat = s.data[i]'h := by
  rw [← byteAt_eq s i h]
  rw [Int.toNat_natCast]
  have : (s[i]'h).toNat < 256 := (s[i]'h).toNat_lt
  apply UInt8.toNat_inj.1
  rw [UInt8.toNat_ofNat']
  show _ % 256 = (s[i]'h).toNat
  omega
theorem join2 (s : ByteArray) (h : 2 ≤ s.size) : strOfNums [byteAt s 0, byteAt s 1] ++ s.extract 2 s.size = s := by
  apply ByteArray.ext
  rw [ByteArray.data_append, ByteArray.data_extract]
  apply Array.ext'
  rw [Array.toList_append, Array.toList_extract, List.extract_eq_take_drop, strOfNums_data]
  simp only [List.map_cons, List.map_nil]
  rw [num_byte s 0 (by omega), num_byte s 1 (by omega)]
  have hl : s.data.toList.length = s.size := by simp
  rw [List.take_of_length_le (by rw [List.length_drop, hl]; exact Nat.le_refl _)]
  conv => rhs; rw [← List.take_append_drop 2 s.data.toList]
  congr 1
  rw [show (2 : Nat) = 0 + 1 + 1 from rfl, List.take_succ_eq_append_getElem (by omega), List.take_succ_eq_append_getElem (by omega)]
  simp
theorem join4 (s : ByteArray) (h : 4 ≤ s.size) : strOfNums [byteAt s 0, byteAt s 1, byteAt s 2, byteAt s 3] ++ s.extract 4 s.size = s := by
  apply ByteArray.ext
  rw [ByteArray.data_append, ByteArray.data_extract]
  apply Array.ext'
  rw [Array.toList_append, Array.toList_extract, List.extract_eq_take_drop, strOfNums_data]
  simp only [List.map_cons, List.map_nil]
  rw [num_byte s 0 (by omega), num_byte s 1 (by omega), num_byte s 2 (by omega), num_byte s 3 (by omega)]
  have hl : s.data.toList.length = s.size := by simp
  rw [List.take_of_length_le (by rw [List.length_drop, hl]; exact Nat.le_refl _)]
  conv => rhs; rw [← List.take_append_drop 4 s.data.toList]
  congr 1
  rw [show (4 : Nat) = 0 + 1 + 1 + 1 + 1 from rfl, List.take_succ_eq_append_getElem (by omega), List.take_succ_eq_append_getElem (by omega), List.take_succ_eq_append_getElem (by omega), List.take_succ_eq_append_getElem (by omega)]
  simp

theorem back (s : ByteArray) (short : Bool) (h : getE s short = 0) : putS (getF s short) short = s ∧ putE (getF s short) short = 0 := by
  have hg : ¬ GetForm s short := fun hh => by unfold getE at h; rw [if_pos hh] at h; omega
  have hr : ¬ 2048 + hlen short < s.size := fun hh => by unfold getE at h; rw [if_neg hg, if_pos hh] at h; omega
  have hF : getF s short = okF s short := by unfold getF; rw [if_neg hg, if_neg hr]
  have h1 : hlen short ≤ s.size := by unfold GetForm at hg; omega
  have h2 : clean s short := by unfold GetForm at hg; exact Decidable.of_not_not fun hh => hg (.inr hh)
  rw [hF]
  obtain ⟨a0, c0⟩ := byteAt_byte s 0
  obtain ⟨a1, c1⟩ := byteAt_byte s 1
  obtain ⟨a2, c2⟩ := byteAt_byte s 2
  obtain ⟨a3, c3⟩ := byteAt_byte s 3
  cases short
  · have h1' : 4 ≤ s.size := h1
    have h2' : byteAt s 0 % 64 = 0 := h2
    have hr' : ¬ 2048 + 4 < s.size := hr
    have hq : seqOf s false = byteAt s 1 * 65536 + byteAt s 2 * 256 + byteAt s 3 := rfl
    have ho : PutOk (okF s false) false := by
      refine ⟨?_, ?_, ?_⟩
      · show 0 ≤ seqOf s false; omega
      · show seqOf s false < 16777216; omega
      · show (s.extract 4 s.size).size ≤ 2048; rw [ByteArray.size_extract]; omega
    unfold putS putE
    rw [if_pos ho, if_pos ho]
    refine ⟨?_, rfl⟩
    have hj := join4 s h1'
    have hh : head (decide (128 ≤ byteAt s 0)) (decide (64 ≤ byteAt s 0 % 128)) (seqOf s false) false = [byteAt s 0, byteAt s 1, byteAt s 2, byteAt s 3] := by
      show [_, _, _, _] = [_, _, _, _]
      have e0 : hd (decide (128 ≤ byteAt s 0)) (decide (64 ≤ byteAt s 0 % 128)) = byteAt s 0 := by
        unfold hd; simp only [decide_eq_true_eq]; split <;> split <;> omega
      rw [e0, hq, show (byteAt s 1 * 65536 + byteAt s 2 * 256 + byteAt s 3) / 65536 = byteAt s 1 by omega, show (byteAt s 1 * 65536 + byteAt s 2 * 256 + byteAt s 3) / 256 % 256 = byteAt s 2 by omega, show (byteAt s 1 * 65536 + byteAt s 2 * 256 + byteAt s 3) % 256 = byteAt s 3 by omega]
    show strOfNums (head (decide (128 ≤ byteAt s 0)) (decide (64 ≤ byteAt s 0 % 128)) (seqOf s false) false) ++ s.extract 4 s.size = s
    rw [hh]
    exact hj
  · have h1' : 2 ≤ s.size := h1
    have h2' : byteAt s 0 / 16 % 4 = 0 := h2
    have hr' : ¬ 2048 + 2 < s.size := hr
    have hq : seqOf s true = byteAt s 0 % 64 * 256 + byteAt s 1 := rfl
    have ho : PutOk (okF s true) true := by
      refine ⟨?_, ?_, ?_⟩
      · show 0 ≤ seqOf s true; omega
      · show seqOf s true < 4096; omega
      · show (s.extract 2 s.size).size ≤ 2048; rw [ByteArray.size_extract]; omega
    unfold putS putE
    rw [if_pos ho, if_pos ho]
    refine ⟨?_, rfl⟩
    have hj := join2 s h1'
    have hh : head (decide (128 ≤ byteAt s 0)) (decide (64 ≤ byteAt s 0 % 128)) (seqOf s true) true = [byteAt s 0, byteAt s 1] := by
      show [_, _] = [_, _]
      have e0 : hd (decide (128 ≤ byteAt s 0)) (decide (64 ≤ byteAt s 0 % 128)) + seqOf s true / 256 = byteAt s 0 := by
        unfold hd; simp only [decide_eq_true_eq]; split <;> split <;> omega
      rw [e0, hq, show (byteAt s 0 % 64 * 256 + byteAt s 1) % 256 = byteAt s 1 by omega]
    show strOfNums (head (decide (128 ≤ byteAt s 0)) (decide (64 ≤ byteAt s 0 % 128)) (seqOf s true) true) ++ s.extract 2 s.size = s
    rw [hh]
    exact hj
end Go.Proofs.Ytdpknandacoibaa
