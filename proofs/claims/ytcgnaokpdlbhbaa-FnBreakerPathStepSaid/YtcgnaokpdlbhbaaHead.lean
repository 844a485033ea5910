/- What the program's head says, word by word: it is a cut without lifts; it may be entered. (The kernel alone needs too much memory where the head names many roots.) -/
import Derived.Test.YtcgnaokpdlbhbaaRows
import Derived.JoinedOf
import Derived.KernelRfl
namespace Go.Proofs.Ytcgnaokpdlbhbaa
open Go
set_option linter.unusedVariables false

def spc : Char := Char.ofNat 32
theorem wordsSigns_word (h : List Char) (hh : h.all (fun c => c != spc) = true) (r : List Char) : wordsSigns (h ++ spc :: r) = h :: wordsSigns r := by
  induction h with
  | nil => rfl
  | cons c h ih =>
    simp only [List.all_cons, Bool.and_eq_true, bne_iff_ne] at hh
    have e := ih hh.2
    show wordsSigns (c :: (h ++ spc :: r)) = _
    rw [wordsSigns]
    · rw [e]
    · exact fun h' => hh.1 h'
theorem headIs : ∃ t : String, Try.prog.initOrder = "harness" ++ " " ++ "012858d9f470a4010b7211a1bcf7c6fdd0de45e558bbb88342aa4c410f179474" ++ " " ++ "cut" ++ " " ++ t := ⟨"at loop.example/connectionpool/laws.FnExactValidBreaker loop.example/connectionpool/laws.FnExactLetsCall loop.example/connectionpool/laws.FnValidBreaker loop.example/connectionpool/laws.FnLetsCall loop.example/connectionpool/laws.FnExactBeginCall loop.example/connectionpool/laws.FnExactEndCall loop.example/connectionpool/laws.FnBeginCall loop.example/connectionpool/laws.FnBeginCallLets loop.example/connectionpool/laws.FnEndCall loop.example/connectionpool/laws.FnEndCallOpen loop.example/connectionpool/laws.FnEndCallTry loop.example/connectionpool/laws.FnBeginCallTwice loop.example/connectionpool/laws.FnExactBreakerPath loop.example/connectionpool/laws.FnBreakerPath loop.example/connectionpool/laws.FnBreakerPathGood loop.example/connectionpool/laws.FnBreakerPathStep", by kernel_rfl⟩
theorem headSum_signs : isSumSigns "012858d9f470a4010b7211a1bcf7c6fdd0de45e558bbb88342aa4c410f179474".toList = true := by kernel_rfl
theorem headSum_plain : "012858d9f470a4010b7211a1bcf7c6fdd0de45e558bbb88342aa4c410f179474".toList.all (fun c => c != spc) = true := by kernel_rfl
theorem spaceIs : " ".toList = [spc] := by kernel_rfl
theorem headWords : ∃ r, behindMainWord (wordsSigns Try.prog.initOrder.toList) = "cut".toList :: r := by
  obtain ⟨t, h⟩ := headIs
  refine ⟨wordsSigns t.toList, ?_⟩
  rw [h]
  simp only [String.toList_append, spaceIs, List.append_assoc, List.cons_append, List.nil_append]
  rw [wordsSigns_word _ (by kernel_rfl), wordsSigns_word _ headSum_plain, wordsSigns_word _ (by kernel_rfl)]
  generalize hs : "012858d9f470a4010b7211a1bcf7c6fdd0de45e558bbb88342aa4c410f179474".toList = s
  have e : isSumSigns s = true := by rw [← hs]; exact headSum_signs
  simp [behindMainWord, e]
theorem stripNone (r : List (List Char)) : stripLifts liftWords ("cut".toList :: r) = ([], "cut".toList :: r) := by
  simp [stripLifts, liftWords]
theorem laysLaterP : Try.prog.laysLater = false := by kernel_rfl
theorem bearsReflectP : Try.prog.bearsReflect = false := by kernel_rfl
theorem doorFitsP : Try.prog.doorFits [] = true := by kernel_rfl
theorem cut1 : ("cut".toList == "gc".toList) = false := by kernel_rfl
theorem cut2 : ("cut".toList == "spec".toList) = false := by kernel_rfl
theorem cut3 : ("cut".toList == "carried".toList) = false := by kernel_rfl
theorem cut4 : ("cut".toList == "finals".toList) = false := by kernel_rfl
theorem cut5 : (some "carried".toList == some "cut".toList) = false := by kernel_rfl
theorem cut6 : (some "cut".toList == some "carried".toList) = false := by kernel_rfl
section
variable {P : Program} {r : List (List Char)}
theorem mayEnter_of (hr : behindMainWord (wordsSigns P.initOrder.toList) = "cut".toList :: r) (h1 : P.laysLater = false) (h2 : P.bearsReflect = false) (h3 : P.doorFits [] = true) : P.mayEnter = true := by
  unfold Program.mayEnter
  rw [hr]
  simp only [stripNone, h1, h2, h3, cut1, cut2, cut3, List.head?_cons, beq_self_eq_true, List.contains_nil, Bool.not_false, Bool.and_true, Bool.false_and, Bool.false_or, Bool.or_true]
theorem headLifts_of (hr : behindMainWord (wordsSigns P.initOrder.toList) = "cut".toList :: r) : P.headLifts = [] := by
  unfold Program.headLifts
  rw [hr]
  simp only [stripNone, List.head?_cons, beq_self_eq_true, if_true]
theorem liftsFinal_of (hr : behindMainWord (wordsSigns P.initOrder.toList) = "cut".toList :: r) : P.liftsFinal = false := by
  unfold Program.liftsFinal
  rw [hr, headLifts_of hr]
  simp only [List.head?_cons, cut6, Bool.false_and, List.contains_nil, Bool.or_false]
theorem make_of (hr : behindMainWord (wordsSigns P.initOrder.toList) = "cut".toList :: r) : P.make = some .cut := by
  unfold Program.make
  rw [hr]
  simp only [cut1, cut2, beq_self_eq_true, Bool.or_false, Bool.false_eq_true, if_false, Bool.true_or, if_true]
end
theorem mayEnterP : Try.prog.mayEnter = true := headWords.elim fun _ hr => mayEnter_of hr laysLaterP bearsReflectP doorFitsP
theorem liftsFinalP : Try.prog.liftsFinal = false := headWords.elim fun _ hr => liftsFinal_of hr
theorem makeP : Try.prog.make = some .cut := headWords.elim fun _ hr => make_of hr
theorem laidOutP : laidOutB Try.prog = true := by kernel_rfl
theorem mapsRowedP : mapsRowed Try.prog = true := by kernel_rfl
end Go.Proofs.Ytcgnaokpdlbhbaa
