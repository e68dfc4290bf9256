/- The tables are what the program's functions become. -/
import Derived.Test.YtecncmmkghmojaaShT
import Derived.Test.YtecncmmkghmojaaM3
import Derived.Test.YtecncmmkghmojaaProg
set_option linter.all false
namespace Go.Proofs.Ytecncmmkghmojaa.Sh
open Go
theorem c13 : compFunc Try.prog Try.f13 = some sf13 := by kernel_rfl
theorem c18 : compFunc Try.prog Try.f18 = some sf18 := by kernel_rfl
theorem c59 : compFunc Try.prog Try.f59 = some sf59 := by kernel_rfl
theorem c58 : compFunc Try.prog Try.f58 = some sf58 := by kernel_rfl
theorem c61 : compFunc Try.prog Try.f61 = some sf61 := by kernel_rfl
theorem c60 : compFunc Try.prog Try.f60 = some sf60 := by kernel_rfl
theorem c97 : compFunc Try.prog Try.f97 = some sf97 := by kernel_rfl
theorem c27 : compFunc Try.prog Try.f27 = some sf27 := by kernel_rfl
theorem c69 : compFunc Try.prog Try.f69 = some sf69 := by kernel_rfl
theorem c62 : compFunc Try.prog Try.f62 = some sf62 := by kernel_rfl
theorem c85 : compFunc Try.prog Try.f85 = some sf85 := by kernel_rfl
theorem c105 : compFunc Try.prog Try.f105 = some sf105 := by kernel_rfl
theorem c98 : compFunc Try.prog Try.f98 = some sf98 := by kernel_rfl
theorem c87 : compFunc Try.prog Try.f87 = some sf87 := by kernel_rfl
theorem c99 : compFunc Try.prog Try.f99 = some sf99 := by kernel_rfl
theorem c109 : compFunc Try.prog Try.f109 = some sf109 := by kernel_rfl
theorem c80 : compFunc Try.prog Try.f80 = some sf80 := by kernel_rfl
theorem c95 : compFunc Try.prog Try.f95 = some sf95 := by kernel_rfl
theorem c100 : compFunc Try.prog Try.f100 = some sf100 := by kernel_rfl
theorem c63 : compFunc Try.prog Try.f63 = some sf63 := by kernel_rfl
theorem c101 : compFunc Try.prog Try.f101 = some sf101 := by kernel_rfl
theorem c70 : compFunc Try.prog Try.f70 = some sf70 := by kernel_rfl
theorem c71 : compFunc Try.prog Try.f71 = some sf71 := by kernel_rfl
theorem c67 : compFunc Try.prog Try.f67 = some sf67 := by kernel_rfl
theorem c68 : compFunc Try.prog Try.f68 = some sf68 := by kernel_rfl
theorem c103 : compFunc Try.prog Try.f103 = some sf103 := by kernel_rfl
theorem c82 : compFunc Try.prog Try.f82 = some sf82 := by kernel_rfl
theorem c37 : compFunc Try.prog Try.f37 = some sf37 := by kernel_rfl
theorem c74 : compFunc Try.prog Try.f74 = some sf74 := by kernel_rfl
theorem c75 : compFunc Try.prog Try.f75 = some sf75 := by kernel_rfl
theorem c38 : compFunc Try.prog Try.f38 = some sf38 := by kernel_rfl
theorem c76 : compFunc Try.prog Try.f76 = some sf76 := by kernel_rfl
theorem c77 : compFunc Try.prog Try.f77 = some sf77 := by kernel_rfl
theorem c42 : compFunc Try.prog Try.f42 = some sf42 := by kernel_rfl
theorem c81 : compFunc Try.prog Try.f81 = some sf81 := by kernel_rfl
theorem c28 : compFunc Try.prog Try.f28 = some sf28 := by kernel_rfl
theorem c29 : compFunc Try.prog Try.f29 = some sf29 := by kernel_rfl
theorem c66 : compFunc Try.prog Try.f66 = some sf66 := by kernel_rfl
theorem c72 : compFunc Try.prog Try.f72 = some sf72 := by kernel_rfl
theorem c65 : compFunc Try.prog Try.f65 = some sf65 := by kernel_rfl
theorem c102 : compFunc Try.prog Try.f102 = some sf102 := by kernel_rfl
theorem c30 : compFunc Try.prog Try.f30 = some sf30 := by kernel_rfl
theorem c31 : compFunc Try.prog Try.f31 = some sf31 := by kernel_rfl
theorem c23 : compFunc Try.prog Try.f23 = some sf23 := by kernel_rfl
theorem c19 : compFunc Try.prog Try.f19 = some sf19 := by kernel_rfl
theorem c20 : compFunc Try.prog Try.f20 = some sf20 := by kernel_rfl
theorem c26 : compFunc Try.prog Try.f26 = some sf26 := by kernel_rfl
theorem c35 : compFunc Try.prog Try.f35 = some sf35 := by kernel_rfl
theorem c48 : compFunc Try.prog Try.f48 = some sf48 := by kernel_rfl
theorem c84 : compFunc Try.prog Try.f84 = some sf84 := by kernel_rfl
theorem c73 : compFunc Try.prog Try.f73 = some sf73 := by kernel_rfl
theorem c104 : compFunc Try.prog Try.f104 = some sf104 := by kernel_rfl
theorem c24 : compFunc Try.prog Try.f24 = some sf24 := by kernel_rfl
theorem c39 : compFunc Try.prog Try.f39 = some sf39 := by kernel_rfl
theorem c55 : compFunc Try.prog Try.f55 = some sf55 := by kernel_rfl
theorem tab : Tab Try.prog FT := by
  intro f sf h
  unfold FT at h
  split at h
  · cases h; exact ⟨_, Try.func13, c13⟩
  · cases h; exact ⟨_, Try.func18, c18⟩
  · cases h; exact ⟨_, Try.func59, c59⟩
  · cases h; exact ⟨_, Try.func58, c58⟩
  · cases h; exact ⟨_, Try.func61, c61⟩
  · cases h; exact ⟨_, Try.func60, c60⟩
  · cases h; exact ⟨_, Try.func97, c97⟩
  · cases h; exact ⟨_, Try.func27, c27⟩
  · cases h; exact ⟨_, Try.func69, c69⟩
  · cases h; exact ⟨_, Try.func62, c62⟩
  · cases h; exact ⟨_, Try.func85, c85⟩
  · cases h; exact ⟨_, Try.func105, c105⟩
  · cases h; exact ⟨_, Try.func98, c98⟩
  · cases h; exact ⟨_, Try.func87, c87⟩
  · cases h; exact ⟨_, Try.func99, c99⟩
  · cases h; exact ⟨_, Try.func109, c109⟩
  · cases h; exact ⟨_, Try.func80, c80⟩
  · cases h; exact ⟨_, Try.func95, c95⟩
  · cases h; exact ⟨_, Try.func100, c100⟩
  · cases h; exact ⟨_, Try.func63, c63⟩
  · cases h; exact ⟨_, Try.func101, c101⟩
  · cases h; exact ⟨_, Try.func70, c70⟩
  · cases h; exact ⟨_, Try.func71, c71⟩
  · cases h; exact ⟨_, Try.func67, c67⟩
  · cases h; exact ⟨_, Try.func68, c68⟩
  · cases h; exact ⟨_, Try.func103, c103⟩
  · cases h; exact ⟨_, Try.func82, c82⟩
  · cases h; exact ⟨_, Try.func37, c37⟩
  · cases h; exact ⟨_, Try.func74, c74⟩
  · cases h; exact ⟨_, Try.func75, c75⟩
  · cases h; exact ⟨_, Try.func38, c38⟩
  · cases h; exact ⟨_, Try.func76, c76⟩
  · cases h; exact ⟨_, Try.func77, c77⟩
  · cases h; exact ⟨_, Try.func42, c42⟩
  · cases h; exact ⟨_, Try.func81, c81⟩
  · cases h; exact ⟨_, Try.func28, c28⟩
  · cases h; exact ⟨_, Try.func29, c29⟩
  · cases h; exact ⟨_, Try.func66, c66⟩
  · cases h; exact ⟨_, Try.func72, c72⟩
  · cases h; exact ⟨_, Try.func65, c65⟩
  · cases h; exact ⟨_, Try.func102, c102⟩
  · cases h; exact ⟨_, Try.func30, c30⟩
  · cases h; exact ⟨_, Try.func31, c31⟩
  · cases h; exact ⟨_, Try.func23, c23⟩
  · cases h; exact ⟨_, Try.func19, c19⟩
  · cases h; exact ⟨_, Try.func20, c20⟩
  · cases h; exact ⟨_, Try.func26, c26⟩
  · cases h; exact ⟨_, Try.func35, c35⟩
  · cases h; exact ⟨_, Try.func48, c48⟩
  · cases h; exact ⟨_, Try.func84, c84⟩
  · cases h; exact ⟨_, Try.func73, c73⟩
  · cases h; exact ⟨_, Try.func104, c104⟩
  · cases h; exact ⟨_, Try.func24, c24⟩
  · cases h; exact ⟨_, Try.func39, c39⟩
  · cases h; exact ⟨_, Try.func55, c55⟩
  · cases h
theorem mixed : Try.prog.follows .mixedOrders = true := by kernel_rfl
theorem snd (n : Nat) : Sound Try.prog (run FT n) n := sound mixed tab n
end Go.Proofs.Ytecncmmkghmojaa.Sh

