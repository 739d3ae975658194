/-
  THE PLAIN LAW OF ExecGrows: the first act that could commit a dot is the one that did.
-/
import Derived.Test.YtibnnhdpaccpfaaAwake
import Derived.Test.YtibnnhdpaccpfaaOpen
namespace Go.Proofs.Ytibnnhdpaccpfaa

/-- an act: Op 0: Commit(i, v, b), else Have(v) -/
structure ActD where
  op : Int
  i : Inst
  v : V7
  b : Value
  bs : List UInt8
/-- may it be committed at all -/
def ActD.first (a : ActD) : Bool := V7.depTo 7 a.i.deps && decide (0 ≤ a.i.seq ∧ a.i.seq ≤ 1099511627776)
def ActD.fits (a : ActD) (r n : Int) : Bool := decide (a.op = 0) && (decide (a.i.rep = r) && (decide (a.i.n = n) && (V7.good a.v && decide (a.bs.length ≤ 65536))))
def waitedL (l : List ActD) (r n : Int) (has : V7) : Bool := match l.find? (fun a => a.fits r n) with | some a => V7.le a.v has || !a.first | none => false
theorem ActD.ok_first {a : ActD} : a.i.ok = (dotOk a.i.dot && a.first) := by
  unfold Inst.ok ActD.first
  cases dotOk a.i.dot <;> cases V7.depTo 7 a.i.deps <;> simp
theorem goodL_one (i : Inst) : goodL [i] = i.ok := by simp [goodL, goodTo, freshAt]

/-- what the acts so far have to do with what is committed -/
structure GrowInv (l : List ActD) (x : XS) : Prop where
  ok : x.Ok
  len : x.coms.length ≤ l.length
  fnd : ∀ d c, x.find d = some c → ∃ a, l.find? (fun a => a.fits d.1 d.2) = some a ∧ (a.first = true → a.v = c.v)
  nof : ∀ d, x.find d = none → ∀ a ∈ l, a.fits d.1 d.2 = true → a.i.ok = false
theorem GrowInv.start : GrowInv [] XS.new := ⟨XS.new_ok, by simp [XS.new], fun d c h => by simp [XS.find, XS.new] at h, fun d _ a h => by simp at h⟩
theorem ActD.fits_dot {a : ActD} {d : Dot} (h : a.fits d.1 d.2 = true) : a.op = 0 ∧ a.i.dot = d ∧ V7.good a.v = true ∧ a.bs.length ≤ 65536 := by
  simp only [ActD.fits, Bool.and_eq_true, decide_eq_true_eq] at h
  exact ⟨h.1, by unfold Inst.dot; rw [h.2.1, h.2.2.1], h.2.2.2.1, h.2.2.2.2⟩
theorem fits_append {l : List ActD} {a : ActD} {d : Dot} : (l ++ [a]).find? (fun a => a.fits d.1 d.2) = (l.find? fun a => a.fits d.1 d.2).or (if a.fits d.1 d.2 = true then some a else none) := by
  rw [List.find?_append]
  congr 1
  cases h : a.fits d.1 d.2 <;> simp [h]
/-- something else was done -/
theorem GrowInv.other {l : List ActD} {x x' : XS} {a : ActD} (h : GrowInv l x) (ho : a.op ≠ 0) (hok : x'.Ok) (hc : x'.coms = x.coms) : GrowInv (l ++ [a]) x' := by
  have hf : ∀ d, x'.find d = x.find d := fun d => by unfold XS.find; rw [hc]
  have hna : ∀ d : Dot, a.fits d.1 d.2 = false := fun d => by simp [ActD.fits, ho]
  refine ⟨hok, by rw [hc]; have := h.len; simp; omega, fun d c hd => ?_, fun d hd b hb hfit => ?_⟩
  · rw [hf] at hd
    obtain ⟨a', h1, h2⟩ := h.fnd d c hd
    exact ⟨a', by rw [fits_append, h1]; rfl, h2⟩
  · rw [hf] at hd
    rcases List.mem_append.1 hb with hb | hb
    · exact h.nof d hd b hb hfit
    · rw [List.mem_singleton.1 hb, hna d] at hfit; cases hfit
theorem GrowInv.commit {l : List ActD} {x : XS} {a : ActD} (h : GrowInv l x) (ho : a.op = 0) (hl : l.length < 1000) (b : Value) : GrowInv (l ++ [a]) (x.commit a.i a.v b a.bs) := by
  have hok := h.ok.commit a.i a.v b a.bs
  have hlen := h.len
  unfold XS.commit at hok ⊢
  by_cases h0 : commitErr x a.i a.v a.bs.length = 0
  · rw [if_pos h0] at hok ⊢
    obtain ⟨hg, hv, hn, hf0, _⟩ := commit_zero h0
    rw [goodL_one] at hg
    have hfit : ∀ d : Dot, a.fits d.1 d.2 = decide (a.i.dot = d) := fun d => by
      obtain ⟨r, n⟩ := d
      simp [ActD.fits, ho, hv, hn, Inst.dot]
    have hfind : ∀ d, XS.find { x with coms := x.coms ++ [⟨a.i, a.v, b, a.bs⟩] } d = (x.find d).or (if a.i.dot = d then some ⟨a.i, a.v, b, a.bs⟩ else none) := fun d => by
      unfold XS.find
      rw [List.find?_append]
      congr 1
      by_cases he : a.i.dot = d <;> simp [he]
    refine ⟨hok, by simp; omega, fun d c hd => ?_, fun d hd a' ha' hfa => ?_⟩
    · rw [hfind] at hd
      rw [fits_append, hfit]
      cases hx : x.find d with
      | some c' =>
        rw [hx] at hd
        simp at hd
        obtain ⟨a', h1, h2⟩ := h.fnd d c' hx
        exact ⟨a', by rw [h1]; rfl, by rw [← hd]; exact h2⟩
      | none =>
        rw [hx] at hd
        by_cases he : a.i.dot = d
        · simp [he] at hd
          cases hl' : l.find? (fun a => a.fits d.1 d.2) with
          | none => exact ⟨a, by simp [he], fun _ => by rw [← hd]⟩
          | some a' =>
            refine ⟨a', rfl, fun hfst => ?_⟩
            have hm := List.mem_of_find?_eq_some hl'
            have hfa := List.find?_some hl'
            have h1 := h.nof d hx a' hm hfa
            rw [ActD.ok_first] at h1
            rw [ActD.ok_first] at hg
            rw [(ActD.fits_dot hfa).2.1, ← he, hfst] at h1
            simp only [Bool.and_eq_true] at hg
            rw [hg.1] at h1
            cases h1
        · simp [he] at hd
    · rw [hfind] at hd
      cases hx : x.find d with
      | some c' => rw [hx] at hd; simp at hd
      | none =>
        rw [hx] at hd
        rcases List.mem_append.1 ha' with hm | hm
        · exact h.nof d hx a' hm hfa
        · rw [List.mem_singleton.1 hm, hfit] at hfa
          simp only [decide_eq_true_eq] at hfa
          simp [hfa] at hd
  · rw [if_neg h0] at hok ⊢
    refine ⟨hok, by simp; omega, fun d c hd => ?_, fun d hd a' ha' hfa => ?_⟩
    · obtain ⟨a', h1, h2⟩ := h.fnd d c hd
      exact ⟨a', by rw [fits_append, h1]; rfl, h2⟩
    · rcases List.mem_append.1 ha' with hm | hm
      · exact h.nof d hd a' hm hfa
      · rw [List.mem_singleton.1 hm] at hfa ⊢
        obtain ⟨_, hdot, hv, hn⟩ := ActD.fits_dot hfa
        cases hokb : a.i.ok with
        | false => rfl
        | true =>
          exfalso
          apply h0
          unfold commitErr
          rw [goodL_one, hokb, hv, if_neg (by simp; omega), hdot, hd, if_neg (by simp), if_neg (by omega)]
/-- what was executed had what it waits for -/
theorem GrowInv.waited {l : List ActD} {x : XS} (h : GrowInv l x) {d : Dot} {has : V7} (hd : d ∈ x.done) (hle : V7.le (x.wait d) has = true) : waitedL l d.1 d.2 has = true := by
  obtain ⟨c, hc, he⟩ := h.ok.sub d hd
  have hs : (x.coms.find? fun c => c.i.dot == d).isSome = true := List.find?_isSome.2 ⟨c, hc, by simp [he]⟩
  obtain ⟨c', hc'⟩ := Option.isSome_iff_exists.1 hs
  obtain ⟨a, h1, h2⟩ := h.fnd d c' hc'
  unfold waitedL
  rw [h1]
  have hw : x.wait d = c'.v := by unfold XS.wait XS.find; rw [hc']
  rw [hw] at hle
  show (V7.le a.v has || !a.first) = true
  cases hf : a.first with
  | true => rw [h2 hf, hle]; rfl
  | false => simp
end Go.Proofs.Ytibnnhdpaccpfaa
