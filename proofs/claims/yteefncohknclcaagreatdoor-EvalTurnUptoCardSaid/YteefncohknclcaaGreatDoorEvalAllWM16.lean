/- Texts joined: EvalAllW. Conditions: theirs. -/
import Derived.Test.YteefncohknclcaaGreatDoorEvalAllWM13
import Derived.Test.YteefncohknclcaaGreatDoorEvalAllWM15
/- What the shells of the laws of eval import besides their walks. Conditions: none. -/
