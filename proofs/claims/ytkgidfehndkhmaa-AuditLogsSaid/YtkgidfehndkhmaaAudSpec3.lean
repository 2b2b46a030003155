/- Which fetch is not such as may be: the document's answer. -/
import Derived.Test.YtkgidfehndkhmaaAudSpec2
namespace Go.PostAud
def fetBad (l : List Fet) (sd : List Sd) (i : Nat) (f : Fet) : Int := if f.err ≠ 0 then 0 else if parts l i f = true then 110 else if f.recs.any (fun r => !saidIn sd r) = true then 3 else 0
def fetAt (l : List Fet) (sd : List Sd) (i : Nat) : Int := match l[i]? with | some f => fetBad l sd i f | none => 0
def fetAns (l : List Fet) (sd : List Sd) : Int × Int := match (List.range l.length).find? (fun i => decide (fetAt l sd i ≠ 0)) with | none => (0, 0) | some i => (fetAt l sd i, (i : Int))
theorem fetAt_of {l : List Fet} {sd : List Sd} {i : Nat} {f : Fet} (hf : l[i]? = some f) : fetAt l sd i = fetBad l sd i f := by unfold fetAt; rw [hf]
theorem fetAns_bad {l : List Fet} {sd : List Sd} {i : Nat} {f : Fet} (hf : l[i]? = some f) {e : Int} (hb : fetBad l sd i f = e) (he : e ≠ 0) (h : ∀ j, j < i → fetAt l sd j = 0) : fetAns l sd = (e, (i : Int)) := by
  have hl : i < l.length := (List.getElem?_eq_some_iff.1 hf).1
  unfold fetAns
  rw [find_first hl (by rw [fetAt_of hf, hb]; exact decide_eq_true he) (fun j hj => by rw [h j hj]; rfl)]
  simp only [fetAt_of hf, hb]
theorem fetAns_ok {l : List Fet} {sd : List Sd} (h : ∀ j, j < l.length → fetAt l sd j = 0) : fetAns l sd = (0, 0) := by
  unfold fetAns
  rw [find_none (fun j hj => by rw [h j hj]; rfl)]
theorem fetBad_skip {l : List Fet} {sd : List Sd} {i : Nat} {f : Fet} (h : f.err ≠ 0) : fetBad l sd i f = 0 := by unfold fetBad; rw [if_pos h]
theorem fetBad_parts {l : List Fet} {sd : List Sd} {i : Nat} {f : Fet} (h : f.err = 0) (hp : parts l i f = true) : fetBad l sd i f = 110 := by unfold fetBad; rw [if_neg (by simp [h]), if_pos hp]
theorem fetBad_none {l : List Fet} {sd : List Sd} {i : Nat} {f : Fet} (h : f.err = 0) (hp : parts l i f = false) (hs : f.recs.any (fun r => !saidIn sd r) = true) : fetBad l sd i f = 3 := by unfold fetBad; rw [if_neg (by simp [h]), if_neg (by simp [hp]), if_pos hs]
theorem fetBad_ok {l : List Fet} {sd : List Sd} {i : Nat} {f : Fet} (hp : parts l i f = false) (hs : f.recs.any (fun r => !saidIn sd r) = false) : fetBad l sd i f = 0 := by
  unfold fetBad
  by_cases h : f.err = 0
  · rw [if_neg (by simp [h]), if_neg (by simp [hp]), if_neg (by simp [hs])]
  · rw [if_pos h]
end Go.PostAud
