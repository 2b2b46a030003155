/- The walk of highest.sees. -/
import Derived.Test.YtkgidfehndkhmaaAudLeaf
import Derived.Test.YtkgidfehndkhmaaAudKeys
import Derived.Test.YtkgidfehndkhmaaAudKMaps
import Derived.Test.YtkgidfehndkhmaaMem
import Derived.Maps.RangeWalk
namespace Go.Proofs.Ytkgidfehndkhmaa
open Go.RowKit Go.PostAud Go.PostMem
def SeesPost (w : World) (b : Nat) (S : ByteArray → Int → Prop) (e : Ending) (w' : World) : Prop := e = .returned (.tuple #[]) ∧ ∃ g', MapU.IsMap w' Try.prog 9 b g' ∧ HiOk S g' ∧ w.grownBy w' (some b)
set_option maxRecDepth 100000 in
set_option maxHeartbeats 1600000 in
theorem sees_any (b : Nat) (S : ByteArray → Int → Prop) (g : Value → Option Value) (key : ByteArray) (o : Int) (w : World) (hm : MapU.IsMap w Try.prog 9 b g) (hs : HiOk S g) (hk : key.size ≤ maxLen) :
    Calls Try.prog 24 #[.map (some b), .string key, .int .i64 o] w (SeesPost w b (fun k' o' => S k' o' ∨ (k' = key ∧ o' = o))) := by
  have HK := Lib.hid (str_key hk)
  have HM := Lib.hid hm
  have HS := Lib.hid hs
  clear hm hs hk
  cases hg : g (.string key) with
  | none =>
    have hget : MapU.seen true (.int .i64 0) (g (.string key)) = .tuple #[.int .i64 0, .bool false] := by rw [hg]; rfl
    have HG := Lib.hid hg
    clear hg
    go_enter Try.func24, Try.ntmps24
    go_wp2_with (first
      | (at_lookup; refine MapU.wpList_look rfl (.tmp 9) (.tmp 10) 72 true rfl 9 3 lawStr Try.underlying72 _ (zeroInt _) b g rfl HM.out (.string key) rfl HK.out ?_; rw [hget])
      | (at_mapUpdate; refine MapU.wpList_put rfl (.tmp 21) (.tmp 22) (.tmp 23) 72 rfl 9 3 lawStr Try.underlying72 b g rfl HM.out (.string key) (.int .i64 o) rfl rfl HK.out ?_; intro w7 hm7 hg7; go_frame))
    have HR := Lib.hid (And.intro hm7 hg7)
    clear hm7 hg7
    go_end0
    exact ⟨rfl, _, HR.out.1, hi_put HS.out key o (fun o' h => absurd HG.out (HS.out.2 key o' h)), HR.out.2⟩
  | some v =>
    obtain ⟨o1, rfl, h1, h2⟩ := HS.out.1 key v hg
    have H2 := Lib.hid h2
    have hget : MapU.seen true (.int .i64 0) (g (.string key)) = .tuple #[.int .i64 o1, .bool true] := by rw [hg]; rfl
    have HG := Lib.hid hg
    clear hg h1 h2
    by_cases ho : o1 < o
    · have hod : decide (o1 < o) = true := decide_eq_true ho
      have HO := Lib.hid ho
      clear ho
      go_enter Try.func24, Try.ntmps24
      go_wp2_with (first
        | (at_lookup; refine MapU.wpList_look rfl (.tmp 9) (.tmp 10) 72 true rfl 9 3 lawStr Try.underlying72 _ (zeroInt _) b g rfl HM.out (.string key) rfl HK.out ?_; rw [hget])
        | (at_mapUpdate; refine MapU.wpList_put rfl (.tmp 21) (.tmp 22) (.tmp 23) 72 rfl 9 3 lawStr Try.underlying72 b g rfl HM.out (.string key) (.int .i64 o) rfl rfl HK.out ?_; intro w7 hm7 hg7; go_frame))
      have HR := Lib.hid (And.intro hm7 hg7)
      clear hm7 hg7
      go_end0
      exact ⟨rfl, _, HR.out.1, hi_put HS.out key o (fun o' h => by have := H2.out o' h; have := HO.out; omega), HR.out.2⟩
    · have hod : decide (o1 < o) = false := decide_eq_false ho
      have HO := Lib.hid ho
      clear ho
      go_enter Try.func24, Try.ntmps24
      go_wp2_with (at_lookup; refine MapU.wpList_look rfl (.tmp 9) (.tmp 10) 72 true rfl 9 3 lawStr Try.underlying72 _ (zeroInt _) b g rfl HM.out (.string key) rfl HK.out ?_; rw [hget])
      go_end0
      exact ⟨rfl, g, HM.out, hi_keep HS.out HG.out (by have := HO.out; omega), grown_refl w _⟩
end Go.Proofs.Ytkgidfehndkhmaa
