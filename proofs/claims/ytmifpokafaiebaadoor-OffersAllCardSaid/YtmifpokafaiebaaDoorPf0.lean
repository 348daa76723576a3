/- text out of bytes -/
import Derived.Test.YtmifpokafaiebaaDoorVal
namespace Go.Proofs.YtmifpokafaiebaaDoor
open Go.RowKit
set_option linter.unusedVariables false
set_option maxRecDepth 100000

theorem run_bytes_string (w : World) (p : Option Addr) (c : Nat) (s : ByteArray) (h : SB w p s.data.toList) :
    (convert 27 9 (.slice p s.size c)).run Tryd.prog w = .ok (.string s) w := by
  have hsl : s.data.toList.length = s.size := by rw [Array.length_toList]; rfl
  cases p with
  | none =>
    have hn : s.data.toList = [] := by
      rcases Classical.em (s.data.toList = []) with h1 | h1
      · exact h1
      · obtain ⟨b, o, e, _⟩ := h h1; cases e
    have h0 : s.size = 0 := by rw [← hsl, hn]; rfl
    have hs : s = ⟨#[]⟩ := by
      cases s with | mk d => congr 1; exact Array.toList_inj.1 (by simpa using hn)
    rw [h0, hs]
    exact Lib.run_convert_nil_bytes w _ _ 5 c rfl rfl rfl
  | some a =>
    have := run_convert_bytes_back (P := Tryd.prog) w 27 9 5 a c s.data.toList rfl rfl rfl (fun j hj => by
      obtain ⟨b, o, e, hB⟩ := h (fun e => by rw [e] at hj; simp at hj)
      injection e with e
      subst e
      have := hB j hj
      have e2 : (Addr.add ⟨b, o, none⟩ j) = ⟨b, o + j, none⟩ := by simp [Addr.add]
      rw [e2]; exact this)
    rw [hsl] at this
    simpa using this


end Go.Proofs.YtmifpokafaiebaaDoor
