/- Chapter 19: the plain law of JoinLosses: what is told is a part of the packets, in their row. No program in sight. -/
import Derived.Test.YtcfgbfabokhjcaaTwo
namespace Go.Proofs.Ytcfgbfabokhjcaa
namespace Plain
open Go

/-- the bytes of a row of fragments. -/
def fbytes (l : List Fr) : List UInt8 := l.flatMap fun f => f.d.data.toList
/-- fragments one number behind the other, and of which packets they are: R n: the packets that begin at n or behind it. -/
structure Row (fs : List Fr) (R : Nat → List ByteArray) : Prop where
  num : ∀ n (h : n < fs.length), fs[n].q = n
  small : ∀ n (h : n < fs.length), fs[n].d.size ≤ 2048
  down : ∀ n, (R (n + 1)).Sublist (R n)
  done : ∀ n, fs.length ≤ n → R n = []
  pack : ∀ n (h : n < fs.length), fs[n].b = true → ∃ k, 1 ≤ k ∧ n + k ≤ fs.length ∧ (∀ i (_ : i < k) (hi : n + i < fs.length), fs[n + i].b = (i == 0) ∧ fs[n + i].e = decide (i + 1 = k)) ∧
    R n = (⟨(fbytes ((fs.drop n).take k)).toArray⟩ : ByteArray) :: R (n + k)
theorem Row.nil : Row [] (fun _ => []) := ⟨fun n h => absurd h (by simp), fun n h => absurd h (by simp), fun n => List.Sublist.refl _, fun n _ => rfl, fun n h => absurd h (by simp)⟩
theorem Row.mono {fs : List Fr} {R : Nat → List ByteArray} (h : Row fs R) {n m : Nat} (hnm : n ≤ m) : (R m).Sublist (R n) := by
  induction m with
  | zero => rw [show n = 0 by omega]; exact List.Sublist.refl _
  | succ m ih =>
    by_cases e : n = m + 1
    · rw [e]; exact List.Sublist.refl _
    · exact (h.down m).trans (ih (by omega))
/-- one packet more. -/
def moreR (n0 : Nat) (R : Nat → List ByteArray) (p : ByteArray) (n : Nat) : List ByteArray := if n ≤ n0 then R n ++ [p] else []
theorem Row.snoc {fs : List Fr} {R : Nat → List ByteArray} (h : Row fs R) {l : List Fr} {p : ByteArray} (hl : 1 ≤ l.length)
    (hq : ∀ i (hi : i < l.length), l[i].q = (fs.length + i : Nat)) (hd : ∀ i (hi : i < l.length), l[i].d.size ≤ 2048)
    (hb : ∀ i (hi : i < l.length), l[i].b = (i == 0)) (he : ∀ i (hi : i < l.length), l[i].e = decide (i + 1 = l.length)) (hp : fbytes l = p.data.toList) :
    Row (fs ++ l) (moreR fs.length R p) := by
  have hlen : (fs ++ l).length = fs.length + l.length := List.length_append
  refine ⟨?_, ?_, ?_, ?_, ?_⟩
  · intro n hn
    by_cases c : n < fs.length
    · rw [List.getElem_append_left c]; exact h.num n c
    · rw [List.getElem_append_right (by omega), hq]; congr 1; omega
  · intro n hn
    by_cases c : n < fs.length
    · rw [List.getElem_append_left c]; exact h.small n c
    · rw [List.getElem_append_right (by omega)]; exact hd _ _
  · intro n
    unfold moreR
    by_cases c : n + 1 ≤ fs.length
    · rw [if_pos c, if_pos (by omega)]
      exact (h.down n).append_right _
    · rw [if_neg c]
      exact List.nil_sublist _
  · intro n hn
    unfold moreR
    rw [if_neg (by omega)]
  · intro n hn hbn
    by_cases c : n < fs.length
    · rw [List.getElem_append_left c] at hbn
      obtain ⟨k, k1, k2, k3, k4⟩ := h.pack n c hbn
      refine ⟨k, k1, by omega, fun i hi hi2 => ?_, ?_⟩
      · have hi3 : n + i < fs.length := by omega
        rw [List.getElem_append_left hi3]
        exact k3 i hi hi3
      · unfold moreR
        rw [if_pos (by omega), if_pos (by omega), k4, List.drop_append_of_le_length (by omega), List.take_append_of_le_length (by simp; omega)]
        rfl
    · have hn0 : n = fs.length := by
        rw [List.getElem_append_right (by omega), hb] at hbn
        simp at hbn
        omega
      subst hn0
      refine ⟨l.length, hl, by omega, fun i hi hi2 => ?_, ?_⟩
      · rw [List.getElem_append_right (by omega)]
        simp only [Nat.add_sub_cancel_left]
        exact ⟨hb i hi, he i hi⟩
      · unfold moreR
        rw [if_pos (Nat.le_refl _), if_neg (by omega), h.done _ (Nat.le_refl _), List.drop_left, List.take_length, hp]
        rfl

/-- a reassembly that was handed some of them. -/
structure Lo (fs : List Fr) (R : Nat → List ByteArray) (want : List ByteArray) (S : J) (got : List ByteArray) : Prop where
  row : Row fs R
  few : fs.length ≤ 1000
  ring : S.R = 4096
  next : S.next ≤ fs.length
  held : ∀ f ∈ S.held, S.next ≤ f.q ∧ ∃ n, ∃ h : n < fs.length, f = fs[n]
  links : ∀ p ∈ S.links, p.2 < fs.length
  ok : S.Ok
  told : (got ++ R S.next.toNat).Sublist want
theorem Lo.at {fs : List Fr} {R : Nat → List ByteArray} {want : List ByteArray} {S : J} {got : List ByteArray} (h : Lo fs R want S got) {f : Fr} (hf : f ∈ S.held) : ∃ n, ∃ hn : n < fs.length, f = fs[n] ∧ f.q = n ∧ S.next ≤ n ∧ off S.R S.next f.q = n - S.next := by
  obtain ⟨h1, n, hn, rfl⟩ := h.held f hf
  have hq := h.row.num n hn
  have h0 := h.ok.next0
  have hf := h.few
  refine ⟨n, hn, rfl, hq, by omega, ?_⟩
  rw [hq, h.ring]
  unfold off
  omega
/-- on to a later number. -/
theorem Lo.go {fs : List Fr} {R : Nat → List ByteArray} {want : List ByteArray} {S : J} {got : List ByteArray} (h : Lo fs R want S got) {k : Int} (h0 : 0 ≤ k) (hk : S.next + k ≤ fs.length) {T : J} (hok : T.Ok) (e1 : T.R = S.R) (e2 : T.links = S.links) (e3 : T.next = pos S.R S.next k)
    (e4 : ∀ f ∈ T.held, f ∈ S.held ∧ k ≤ off S.R S.next f.q) {got' : List ByteArray} (hg : (got' ++ R (S.next + k).toNat).Sublist want) : Lo fs R want T got' := by
  have n0 := h.ok.next0
  have hf := h.few
  have e3' : T.next = S.next + k := by rw [e3, h.ring]; unfold pos; omega
  refine ⟨h.row, h.few, e1.trans h.ring, by omega, fun f hf => ?_, fun p hp => h.links p (by rw [← e2]; exact hp), hok, by rw [e3']; exact hg⟩
  obtain ⟨a, b⟩ := e4 f hf
  obtain ⟨n, hn, rfl, hq, hn1, ho⟩ := h.at a
  exact ⟨by omega, n, hn, rfl⟩
theorem Lo.quiet {fs : List Fr} {R : Nat → List ByteArray} {want : List ByteArray} {S : J} {got : List ByteArray} (h : Lo fs R want S got) {k : Int} (h0 : 0 ≤ k) : (got ++ R (S.next + k).toNat).Sublist want :=
  ((List.Sublist.refl got).append (h.row.mono (by omega))).trans h.told
theorem Lo.letGo {fs : List Fr} {R : Nat → List ByteArray} {want : List ByteArray} {S : J} {got : List ByteArray} (h : Lo fs R want S got) {k : Int} (h0 : 0 ≤ k) (hk : S.next + k ≤ fs.length) : Lo fs R want (S.letGo k) got :=
  h.go h0 hk (letGo_ok h.ok k) rfl rfl rfl (fun f hf => by
    have hf' : f ∈ fromL S.R S.next k S.held := hf
    unfold fromL at hf'
    rw [List.mem_filter] at hf'
    exact ⟨hf'.1, by simpa using hf'.2⟩) (h.quiet h0)
theorem Lo.get {fs : List Fr} {R : Nat → List ByteArray} {want : List ByteArray} {S : J} {got : List ByteArray} (h : Lo fs R want S got) {i : Nat} (hi : i ≤ 200) {f : Fr} (hg : S.get (pos S.R S.next i) = some f) : ∃ hn : S.next.toNat + i < fs.length, f = fs[S.next.toNat + i] := by
  obtain ⟨hf, hq⟩ := get_mem hg
  obtain ⟨n, hn, rfl, hqn, hn1, _⟩ := h.at hf
  have h0 := h.ok.next0
  have hl := h.few
  rw [hqn, h.ring] at hq
  unfold pos at hq
  have e : n = S.next.toNat + i := by omega
  subst e
  exact ⟨hn, rfl⟩
/-- where the scan is whole it has read the packet that begins there. -/
theorem Lo.scan {fs : List Fr} {R : Nat → List ByteArray} {want : List ByteArray} {S : J} {got : List ByteArray} (h : Lo fs R want S got) {k : Nat} (hk : S.next.toNat + k ≤ fs.length)
    (hb : ∀ i (_ : i < k) (hi : S.next.toNat + i < fs.length), fs[S.next.toNat + i].b = (i == 0) ∧ fs[S.next.toNat + i].e = decide (i + 1 = k)) :
    ∀ (fuel i : Nat), i < k → i + fuel ≤ 140 → (S.scan fuel i (fbytes ((fs.drop S.next.toNat).take i))).2.2 = true →
      S.scan fuel i (fbytes ((fs.drop S.next.toNat).take i)) = (fbytes ((fs.drop S.next.toNat).take k), k, true)
  | 0, i, _, _, hw => by simp [J.scan] at hw
  | fuel + 1, i, hi, hf, hw => by
    cases hg : S.get (pos S.R S.next i) with
    | none => rw [scan_none hg] at hw; cases hw
    | some f =>
      obtain ⟨hn, rfl⟩ := h.get (by omega) hg
      obtain ⟨hbi, hei⟩ := hb i hi hn
      have hnb : ¬ (0 < i ∧ fs[S.next.toNat + i].b = true) := by
        rintro ⟨a, b⟩
        rw [hbi] at b
        simp at b
        omega
      have hby : fbytes ((fs.drop S.next.toNat).take i) ++ fs[S.next.toNat + i].d.data.toList = fbytes ((fs.drop S.next.toNat).take (i + 1)) := by
        have hlt : i < (fs.drop S.next.toNat).length := by simp; omega
        rw [List.take_succ_eq_append_getElem hlt]
        unfold fbytes
        rw [List.flatMap_append]
        simp
      by_cases c : i + 1 = k
      · rw [scan_end hg hnb (by rw [hei]; simpa using c), hby, c]
      · have he : fs[S.next.toNat + i].e = false := by rw [hei]; simpa using c
        rw [scan_on hg hnb he, hby] at hw ⊢
        exact Lo.scan h hk hb fuel (i + 1) (by omega) (by omega) hw
theorem Lo.upto {fs : List Fr} {R : Nat → List ByteArray} {want : List ByteArray} {S : J} {got : List ByteArray} (h : Lo fs R want S got) (hu : 0 ≤ S.upto) : S.next + S.upto + 1 ≤ fs.length := by
  have hb := upto_bd h.ok
  have hr := h.ring
  have hany : S.links.any (fun p => decide (p.2 < 0)) = false := by
    cases hh : S.links.any (fun p => decide (p.2 < 0)) with
    | false => rfl
    | true => unfold J.upto uptoL at hu; rw [hh] at hu; simp at hu
  have hex : ∃ p ∈ S.links, sgn S.R S.next p.2 = S.upto := by
    have hup : S.upto = minS S.R S.next S.links := by
      unfold J.upto uptoL at hu ⊢
      rw [hany] at hu ⊢
      simp only [Bool.false_eq_true, if_false] at hu ⊢
      split at hu
      · omega
      · rename_i hh; rw [if_neg hh]; rfl
    rcases foldl_min_in (l := S.links.map fun p => sgn S.R S.next p.2) S.R with e | e
    · have : S.upto = S.R := hup.trans e
      omega
    · obtain ⟨p, hp, e⟩ := List.mem_map.1 e
      exact ⟨p, hp, by rw [hup]; exact e⟩
  obtain ⟨p, hp, e⟩ := hex
  have h1 := h.links p hp
  have h2 := h.ok.link p hp
  have h3 : ¬ p.2 < 0 := by
    intro c
    have := List.any_eq_false.1 hany p hp
    simp at this
    omega
  have h0 := h.ok.next0
  have h4 := h.next
  have h5 := h.few
  rw [hr] at e
  unfold sgn off at e
  split at e <;> omega
theorem Lo.step {fs : List Fr} {R : Nat → List ByteArray} {want : List ByteArray} {S T : J} {got : List ByteArray} {o : Option ByteArray} (h : Lo fs R want S got) (hs : S.step = some (T, o)) : Lo fs R want T (got ++ o.toList) := by
  have n0 := h.ok.next0
  have n1 := h.next
  unfold J.step at hs
  cases hg : S.get S.next with
  | some f =>
    rw [hg] at hs
    simp only at hs
    have hg0 : S.get (pos S.R S.next ((0 : Nat) : Int)) = some f := by rw [show pos S.R S.next ((0 : Nat) : Int) = S.next from pos_zero h.ok.next0 h.ok.next1]; exact hg
    obtain ⟨hn0, hf0⟩ := h.get (by omega) hg0
    unfold J.first at hs
    by_cases hb : f.b = false
    · rw [if_pos hb] at hs
      simp at hs
      obtain ⟨rfl, rfl⟩ := hs
      simp only [Option.toList, List.append_nil]
      exact h.letGo (by omega) (by omega)
    · rw [if_neg hb] at hs
      have hbt : fs[S.next.toNat + 0].b = true := by rw [← hf0]; simpa using hb
      obtain ⟨k, k1, k2, k3, k4⟩ := h.row.pack S.next.toNat (by omega) hbt
      have hsc := h.scan k2 k3 (S.held.length + 1) 0 (by omega) (by have := h.ok.count; omega)
      have hsn := scan_n S (S.held.length + 1) 0 []
      have hct := h.ok.count
      have hz : fbytes ((fs.drop S.next.toNat).take 0) = [] := rfl
      rw [hz] at hsc
      generalize hrr : S.scan (S.held.length + 1) 0 [] = r at *
      simp only at hs
      by_cases c1 : r.2.2 = true
      · rw [if_pos c1] at hs
        simp at hs
        obtain ⟨rfl, rfl⟩ := hs
        have := hsc c1
        subst this
        refine h.go (k := k) (by omega) (by omega) (tell_ok h.ok _) rfl rfl rfl (fun f hf => ?_) ?_
        · have hf' : f ∈ fromL S.R S.next k S.held := hf
          unfold fromL at hf'
          rw [List.mem_filter] at hf'
          exact ⟨hf'.1, by simpa using hf'.2⟩
        · have ht := h.told
          rw [k4] at ht
          rw [show (S.next + (k : Int)).toNat = S.next.toNat + k by omega, List.append_assoc]
          exact ht
      · rw [if_neg c1] at hs
        by_cases c2 : (S.get (pos S.R S.next r.2.1)).isSome = true
        · rw [if_pos c2] at hs
          simp at hs
          obtain ⟨rfl, rfl⟩ := hs
          obtain ⟨f2, hf2⟩ := Option.isSome_iff_exists.1 c2
          obtain ⟨hn2, _⟩ := h.get (by omega) hf2
          simp only [Option.toList, List.append_nil]
          exact h.letGo (by omega) (by omega)
        · rw [if_neg c2] at hs
          by_cases c3 : (r.2.1 : Int) ≤ S.upto
          · rw [if_pos c3] at hs
            simp at hs
            obtain ⟨rfl, rfl⟩ := hs
            have hup := h.upto (by omega)
            simp only [Option.toList, List.append_nil]
            exact h.letGo (by omega) (by omega)
          · rw [if_neg c3] at hs
            simp at hs
  | none =>
    rw [hg] at hs
    simp only at hs
    by_cases c : 0 ≤ S.upto
    · rw [if_pos c] at hs
      simp at hs
      obtain ⟨rfl, rfl⟩ := hs
      have hup := h.upto c
      have hlb := least_bd h.ok
      have hp := pos_bd (n := S.next) (q := min (S.upto + 1) S.least) h.ok.isRing
      have hok : J.Ok { S with held := S.held, next := pos S.R S.next (min (S.upto + 1) S.least) } := sub_ok h.ok S.held (List.Sublist.refl _) _ hp.1 hp.2
      simp only [Option.toList, List.append_nil]
      refine h.go (k := min (S.upto + 1) S.least) (by omega) (by omega) hok rfl rfl rfl (fun f hf => ⟨hf, ?_⟩) (h.quiet (by omega))
      have : S.least ≤ off S.R S.next f.q := foldl_min_mem _ _ (List.mem_map.2 ⟨f, hf, rfl⟩)
      omega
    · rw [if_neg c] at hs
      cases hs
theorem Lo.runF {fs : List Fr} {R : Nat → List ByteArray} {want : List ByteArray} : ∀ (fuel : Nat) (S : J) (got : List ByteArray), S.mu < fuel → Lo fs R want S got → Lo fs R want (J.runF fuel S).1 (got ++ (J.runF fuel S).2)
  | 0, _, _, h, _ => by omega
  | fuel + 1, S, got, hm, h => by
    cases hs : S.step with
    | some r =>
      obtain ⟨T, o⟩ := r
      obtain ⟨_, k2, _⟩ := step_down h.ok hs
      rw [runF_step hs, ← List.append_assoc]
      exact Lo.runF fuel T _ (by omega) (h.step hs)
    | none =>
      by_cases hl : (S.held.length : Int) ≤ S.most
      · rw [runF_wait hs hl, List.append_nil]
        exact h
      · obtain ⟨_, k2, _⟩ := over_down h.ok (by omega)
        rw [runF_over hs hl]
        refine Lo.runF fuel _ _ (by omega) ?_
        have hne : S.held ≠ [] := by
          intro e
          rw [e] at hl
          have := h.ok.most0
          simp at hl; omega
        obtain ⟨f, hf, e⟩ := least_mem h.ok hne
        obtain ⟨n, hn, _, hq, hn1, ho⟩ := h.at hf
        have hlb := least_bd h.ok
        exact h.letGo (by omega) (by omega)
/-- a fragment that is put. -/
theorem Lo.put {fs : List Fr} {R : Nat → List ByteArray} {want : List ByteArray} {S : J} {got : List ByteArray} (h : Lo fs R want S got) (link : Int) (hl : S.has link = true) {n : Nat} (hn : n < fs.length) (hs : S.short = true) (hc : S.held.length ≤ 128) (hlost : S.lost + S.held.length < 1099511627776) :
    putE S link fs[n] = 0 ∧ Lo fs R want (putS S link fs[n]) (got ++ putO S link fs[n]) := by
  have hq := h.row.num n hn
  have hd := h.row.small n hn
  have hfw := h.few
  have hm : mayF S.short fs[n] = true := by
    unfold mayF
    rw [hs]
    simp only [decide_eq_true_eq]
    refine ⟨by omega, ?_, hd⟩
    show _ < (4096 : Int)
    omega
  have he : putE S link fs[n] = 0 := by
    unfold putE
    rw [if_neg (by rw [hl]; decide), if_neg (by rw [hm]; decide)]
  have hlok := lay_ok h.ok link hm hc hlost
  have hlay : Lo fs R want (S.lay link fs[n]) got := by
    have hlk : ∀ p ∈ updI S.links link fs[n].q, p.2 < fs.length := by
      intro p hp
      unfold updI at hp
      obtain ⟨p', hp', rfl⟩ := List.mem_map.1 hp
      split
      · show fs[n].q < _; omega
      · exact h.links p' hp'
    obtain ⟨e1, e2, e3, e4⟩ := lay_keys S link fs[n]
    have hnx : (S.lay link fs[n]).next = S.next := by rw [lay_eq]; split <;> rfl
    refine ⟨h.row, h.few, e3.trans h.ring, by rw [hnx]; exact h.next, fun f hf => ?_, fun p hp => hlk p (by rw [← e1]; exact hp), hlok, by rw [hnx]; exact h.told⟩
    rw [hnx]
    rw [lay_eq] at hf
    split at hf
    · exact h.held f hf
    · rename_i hcnd
      have hf' : f ∈ S.held ++ [fs[n]] := hf
      rcases List.mem_append.1 hf' with hf' | hf'
      · exact h.held f hf'
      · rw [List.mem_singleton] at hf'
        subst hf'
        refine ⟨?_, n, hn, rfl⟩
        have hno : ¬ S.R / 2 ≤ off S.R S.next fs[n].q := fun c => hcnd (.inr c)
        rw [h.ring, hq] at hno
        have h0 := h.ok.next0
        have hnx2 := h.next
        unfold off at hno
        omega
  refine ⟨he, ?_⟩
  unfold putS putO
  rw [if_pos he, if_pos he]
  unfold J.put J.run
  exact Lo.runF _ _ _ (Nat.lt_succ_self _) hlay
/-- the reassembly that JoinLosses begins with. -/
theorem add_start : ∀ k : Fin 4, (addN (k.val + 1) (J.new true 16)).links = (List.range (k.val + 1)).map (fun (j : Nat) => ((j : Int), (-1 : Int))) ∧ (addN (k.val + 1) (J.new true 16)).held.length = 0 ∧ (addN (k.val + 1) (J.new true 16)).R = 4096 ∧ (addN (k.val + 1) (J.new true 16)).next = 0 ∧ (addN (k.val + 1) (J.new true 16)).lost = 0 ∧ (addN (k.val + 1) (J.new true 16)).most = 16 ∧ (addN (k.val + 1) (J.new true 16)).short = true := by decide +kernel
/-- what is kept beside Lo from put to put. -/
structure Lk (K t : Nat) (S : J) : Prop where
  short : S.short = true
  most : S.most = 16
  few : S.held.length ≤ 16
  sum : S.lost + S.held.length ≤ t
  keys : S.links.map (·.1) = (List.range K).map (fun (j : Nat) => (j : Int))
theorem Lk.has {K t : Nat} {S : J} (h : Lk K t S) {c : Nat} (hc : c < K) : S.has c = true := by
  rw [has_keys, h.keys]
  simp
  exact ⟨c, hc, rfl⟩
theorem Lk.put {K t : Nat} {S : J} (h : Lk K t S) (hok : S.Ok) (ht : t ≤ 2000) (link : Int) (f : Fr) : Lk K (t + 1) (putS S link f) := by
  have hf := h.few
  have hm := h.most
  have hs := h.sum
  have k := put_k hok (by omega) link f (by omega)
  have k1 := k.few
  have k2 := k.sum
  have k3 := k.most
  exact ⟨k.short.trans h.short, by omega, by omega, by omega, k.keys.trans h.keys⟩
theorem Lk.wait {K t : Nat} {S : J} (h : Lk K t S) : Lk K (t + 1) S := ⟨h.short, h.most, h.few, by have := h.sum; omega, h.keys⟩
theorem lo_start {K : Nat} (k1 : 1 ≤ K) (k4 : K ≤ 4) {fs : List Fr} {R : Nat → List ByteArray} {want : List ByteArray} (hR : Row fs R) (hR0 : R 0 = want) (hfl : fs.length ≤ 1000) (hok : (addN K (J.new true 16)).Ok) : Lo fs R want (addN K (J.new true 16)) [] ∧ Lk K 0 (addN K (J.new true 16)) := by
  obtain ⟨e1, e2, e3, e4, e5, e6, e7⟩ := add_start ⟨K - 1, by omega⟩
  simp only [show K - 1 + 1 = K by omega] at e1 e2 e3 e4 e5 e6 e7
  have e2' := List.eq_nil_of_length_eq_zero e2
  refine ⟨⟨hR, hfl, e3, by rw [e4]; omega, fun f hf => (by rw [e2'] at hf; cases hf), fun p hp => ?_, hok, ?_⟩, ⟨e7, e6, by omega, by omega, ?_⟩⟩
  · rw [e1] at hp
    obtain ⟨j, _, rfl⟩ := List.mem_map.1 hp
    show (-1 : Int) < _
    omega
  · rw [e4]
    show ([] ++ R 0).Sublist want
    rw [hR0]
    exact List.Sublist.refl _
  · rw [e1, List.map_map]
    rfl
/-- what is told is a part: the law's own look. -/
def pick : List ByteArray → List ByteArray → Nat
  | _, [] => 0
  | [], _ :: _ => 0
  | a :: want, b :: got => if a = b then pick want got + 1 else pick want (b :: got)
theorem pick_all : ∀ (want got : List ByteArray), got.Sublist want → pick want got = got.length
  | want, [], _ => by cases want <;> rfl
  | [], b :: got, h => by cases h
  | a :: want, b :: got, h => by
    unfold pick
    by_cases e : a = b
    · rw [if_pos e]
      subst e
      rw [pick_all want got (List.cons_sublist_cons.1 h)]
      rfl
    · rw [if_neg e]
      refine pick_all want (b :: got) ?_
      cases h with
      | cons _ h => exact h
      | cons_cons _ h => exact absurd rfl e
end Plain
end Go.Proofs.Ytcfgbfabokhjcaa
